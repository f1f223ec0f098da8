/-
  Walks of functions: each function does what its model tells. Printed by a program of this claim's own (gen.py) off the given translation.
-/
import Derived.Test.YteopjhakjeknaaaDoorVeM
import Derived.Test.YteopjhakjeknaaaDoorVbW
namespace Go.Proofs.YteopjhakjeknaaaDoor
open Go Go.RowKit
set_option linter.unusedVariables false
set_option maxHeartbeats 4000000
set_option maxRecDepth 20000
theorem fc_record_seq (p0 : Int) (r : Bool) (h : m_record_seq p0 = some r) : FC Tryd.prog 69 [.t (.d (.lit (.int .i64 p0)))] [] (.t (.d (.lit (.bool r)))) := by
  refine fc_mk (rs := [.tmp 2]) (n := 9) Tryd.func69 rfl rfl (Nat.le_of_ble_eq_true rfl) rfl (pins := []) rfl (L := [(0, .t (.d (.lit (.int .i64 p0))))]) rfl ?_
  refine c_seq ?_
  refine c_region ?_
  refine o_s (.t (.d (.lit (.bool false)))) (g0 rfl) rfl rfl rfl ?_
  refine o_nil ?_
  repeat (first | refine then_normal ?_ | refine then_exit ?_ | refine then_ret ?_ | refine block_normal ?_ | refine block_ret ?_ | refine block_exit ?_ | refine block_pass rfl ?_)
  refine c_seq ?_
  refine c_region ?_
  refine o_s (.t (.d (.lit (.int .i64 p0)))) (g0 rfl) rfl rfl rfl ?_
  refine o_s (.t (.d (.lit (.bool (decide (p0 ≥ 1)))))) (g0 rfl) rfl rfl rfl ?_
  refine o_s (.t (.d (.lit (.bool (decide (p0 ≥ 1)))))) (g0 rfl) rfl rfl rfl ?_
  rcases bif_some h with ⟨h1, h⟩ | ⟨h1, h⟩
  · refine o_s (.t (.d (.lit (.int .i64 p0)))) (gy rfl rfl rfl h1) rfl rfl rfl ?_
    refine o_s (.t (.d (.lit (.bool (decide (p0 ≤ 1099511627776)))))) (gy rfl rfl rfl h1) rfl rfl rfl ?_
    refine o_pk (.t (.d (.lit (.bool (decide (p0 ≤ 1099511627776)))))) (b := true) h1 (g0 rfl) rfl rfl rfl rfl rfl ?_
    refine o_s (.t (.d (.lit (.bool (decide (p0 ≤ 1099511627776)))))) (g0 rfl) rfl rfl rfl ?_
    refine o_nil ?_
    repeat (first | refine then_normal ?_ | refine then_exit ?_ | refine then_ret ?_ | refine block_normal ?_ | refine block_ret ?_ | refine block_exit ?_ | refine block_pass rfl ?_)
    refine c_ret ?_
    repeat (first | refine then_normal ?_ | refine then_exit ?_ | refine then_ret ?_ | refine block_normal ?_ | refine block_ret ?_ | refine block_exit ?_ | refine block_pass rfl ?_)
    obtain rfl := Option.some.inj h
    exact end0 rfl (.refl _)
  · refine o_skip rfl rfl rfl h1 rfl rfl ?_
    refine o_skip rfl rfl rfl h1 rfl rfl ?_
    refine o_pk (.t (.d (.lit (.bool false)))) (b := false) h1 (g0 rfl) rfl rfl rfl rfl rfl ?_
    refine o_s (.t (.d (.lit (.bool false)))) (g0 rfl) rfl rfl rfl ?_
    refine o_nil ?_
    repeat (first | refine then_normal ?_ | refine then_exit ?_ | refine then_ret ?_ | refine block_normal ?_ | refine block_ret ?_ | refine block_exit ?_ | refine block_pass rfl ?_)
    refine c_ret ?_
    repeat (first | refine then_normal ?_ | refine then_exit ?_ | refine then_ret ?_ | refine block_normal ?_ | refine block_ret ?_ | refine block_exit ?_ | refine block_pass rfl ?_)
    obtain rfl := Option.some.inj h
    exact end0 rfl (.refl _)

theorem fc_record_long (p0 : (List UInt8)) (p1 : Int) (r : Bool) (h : m_record_long p0 p1 = some r) : FC Tryd.prog 70 [.t (.d (.seq 1 (bytesD p0))), .t (.d (.lit (.int .i64 p1)))] [] (.t (.d (.lit (.bool r)))) := by
  refine fc_mk (rs := [.tmp 4]) (n := 14) Tryd.func70 rfl rfl (Nat.le_of_ble_eq_true rfl) rfl (pins := []) rfl (L := [(0, .t (.d (.seq 1 (bytesD p0)))), (1, .t (.d (.lit (.int .i64 p1))))]) rfl ?_
  refine c_seq ?_
  refine c_region ?_
  refine o_s (.t (.d (.lit (.bool false)))) (g0 rfl) rfl rfl rfl ?_
  refine o_nil ?_
  repeat (first | refine then_normal ?_ | refine then_exit ?_ | refine then_ret ?_ | refine block_normal ?_ | refine block_ret ?_ | refine block_exit ?_ | refine block_pass rfl ?_)
  refine c_seq ?_
  refine c_region ?_
  refine o_s (.t (.d (.seq 1 (bytesD p0)))) (g0 rfl) rfl rfl rfl ?_
  refine o_c (g0 rfl) rfl rfl rfl (lenE _ _) trivial ?_
  refine o_s (.t (.d (.lit (.bool (decide ((p0.length : Int) ≥ 1)))))) (g0 rfl) rfl rfl rfl ?_
  refine o_s (.t (.d (.lit (.bool (decide ((p0.length : Int) ≥ 1)))))) (g0 rfl) rfl rfl rfl ?_
  rcases bif_some h with ⟨h1, h⟩ | ⟨h1, h⟩
  · refine o_s (.t (.d (.seq 1 (bytesD p0)))) (gy rfl rfl rfl h1) rfl rfl rfl ?_
    refine o_c (gy rfl rfl rfl h1) rfl rfl rfl (lenE _ _) trivial ?_
    refine o_s (.t (.d (.lit (.int .i64 p1)))) (gy rfl rfl rfl h1) rfl rfl rfl ?_
    refine o_s (.t (.d (.lit (.bool (decide ((p0.length : Int) ≤ p1)))))) (gy rfl rfl rfl h1) rfl rfl rfl ?_
    refine o_pk (.t (.d (.lit (.bool (decide ((p0.length : Int) ≤ p1)))))) (b := true) h1 (g0 rfl) rfl rfl rfl rfl rfl ?_
    refine o_s (.t (.d (.lit (.bool (decide ((p0.length : Int) ≤ p1)))))) (g0 rfl) rfl rfl rfl ?_
    refine o_nil ?_
    repeat (first | refine then_normal ?_ | refine then_exit ?_ | refine then_ret ?_ | refine block_normal ?_ | refine block_ret ?_ | refine block_exit ?_ | refine block_pass rfl ?_)
    refine c_ret ?_
    repeat (first | refine then_normal ?_ | refine then_exit ?_ | refine then_ret ?_ | refine block_normal ?_ | refine block_ret ?_ | refine block_exit ?_ | refine block_pass rfl ?_)
    obtain rfl := Option.some.inj h
    exact end0 rfl (.refl _)
  · refine o_skip rfl rfl rfl h1 rfl rfl ?_
    refine o_skip rfl rfl rfl h1 rfl rfl ?_
    refine o_skip rfl rfl rfl h1 rfl rfl ?_
    refine o_skip rfl rfl rfl h1 rfl rfl ?_
    refine o_pk (.t (.d (.lit (.bool false)))) (b := false) h1 (g0 rfl) rfl rfl rfl rfl rfl ?_
    refine o_s (.t (.d (.lit (.bool false)))) (g0 rfl) rfl rfl rfl ?_
    refine o_nil ?_
    repeat (first | refine then_normal ?_ | refine then_exit ?_ | refine then_ret ?_ | refine block_normal ?_ | refine block_ret ?_ | refine block_exit ?_ | refine block_pass rfl ?_)
    refine c_ret ?_
    repeat (first | refine then_normal ?_ | refine then_exit ?_ | refine then_ret ?_ | refine block_normal ?_ | refine block_ret ?_ | refine block_exit ?_ | refine block_pass rfl ?_)
    obtain rfl := Option.some.inj h
    exact end0 rfl (.refl _)

theorem fc_record_mayVersion (p0 : S_api_VersionRecord) (r : Bool) (h : m_record_mayVersion p0 = some r) : FC Tryd.prog 50 [.t (.agg [.lit (.string ⟨⟨p0.Folder⟩⟩), .lit (.string ⟨⟨p0.Item⟩⟩), .lit (.int .i64 p0.Number), .lit (.int .i64 p0.Epoch), .lit (.int .i64 p0.Seq), .seq 1 (bytesD p0.Digest), .lit (.bool p0.Gone), .seq 1 (bytesD p0.Lock), .seq 1 (bytesD p0.Body), .lit (.string ⟨⟨p0.By⟩⟩)])] [] (.t (.d (.lit (.bool r)))) := by
  refine fc_mk (rs := [.tmp 2]) (n := 66) Tryd.func50 rfl rfl (Nat.le_of_ble_eq_true rfl) rfl (pins := []) rfl (L := [(0, .t (.agg [.lit (.string ⟨⟨p0.Folder⟩⟩), .lit (.string ⟨⟨p0.Item⟩⟩), .lit (.int .i64 p0.Number), .lit (.int .i64 p0.Epoch), .lit (.int .i64 p0.Seq), .seq 1 (bytesD p0.Digest), .lit (.bool p0.Gone), .seq 1 (bytesD p0.Lock), .seq 1 (bytesD p0.Body), .lit (.string ⟨⟨p0.By⟩⟩)]))]) rfl ?_
  refine c_seq ?_
  refine c_region ?_
  refine o_s (.box [.d (.lit (.string ⟨⟨p0.Folder⟩⟩)), .d (.lit (.string ⟨⟨p0.Item⟩⟩)), .d (.lit (.int .i64 p0.Number)), .d (.lit (.int .i64 p0.Epoch)), .d (.lit (.int .i64 p0.Seq)), .d (.seq 1 (bytesD p0.Digest)), .d (.lit (.bool p0.Gone)), .d (.seq 1 (bytesD p0.Lock)), .d (.seq 1 (bytesD p0.Body)), .d (.lit (.string ⟨⟨p0.By⟩⟩))]) (g0 rfl) rfl rfl rfl ?_
  refine o_s (.t (.d (.lit (.bool false)))) (g0 rfl) rfl rfl rfl ?_
  refine o_nil ?_
  repeat (first | refine then_normal ?_ | refine then_exit ?_ | refine then_ret ?_ | refine block_normal ?_ | refine block_ret ?_ | refine block_exit ?_ | refine block_pass rfl ?_)
  refine c_seq ?_
  refine c_block ?_
  refine c_cut (fun (y1 : Bool) => [(1, .box [.d (.lit (.string ⟨⟨p0.Folder⟩⟩)), .d (.lit (.string ⟨⟨p0.Item⟩⟩)), .d (.lit (.int .i64 p0.Number)), .d (.lit (.int .i64 p0.Epoch)), .d (.lit (.int .i64 p0.Seq)), .d (.seq 1 (bytesD p0.Digest)), .d (.lit (.bool p0.Gone)), .d (.seq 1 (bytesD p0.Lock)), .d (.seq 1 (bytesD p0.Body)), .d (.lit (.string ⟨⟨p0.By⟩⟩))]), (3, .t (.d (.lit (.bool y1))))]) (fun (y1 : Bool) => m_record_mayVersion_j1 p0 y1 = some r) ?_ ?_
  · refine c_region ?_
    refine o_s (.ref 1 0) (g0 rfl) rfl rfl rfl ?_
    refine o_s (.t (.d (.lit (.string ⟨⟨p0.Folder⟩⟩)))) (g0 rfl) rfl rfl rfl ?_
    obtain ⟨x21, h22, h⟩ := bind_some h
    refine o_ca (fc_tree_Name _ _ h22) (g0 rfl) rfl rfl rfl rfl rfl rfl rfl (.cons (.refl _) .nil) rfl rfl ?_
    refine o_s (.t (.d (.lit (.bool (!x21))))) (g0 rfl) rfl rfl rfl ?_
    refine o_s (.t (.d (.lit (.bool (!x21))))) (g0 rfl) rfl rfl rfl ?_
    rcases bif_some h with ⟨h23, h⟩ | ⟨h23, h⟩
    · refine o_skip rfl rfl rfl h23 rfl rfl ?_
      refine o_skip rfl rfl rfl h23 rfl rfl ?_
      refine o_skip rfl rfl rfl h23 rfl rfl ?_
      refine o_skip rfl rfl rfl h23 rfl rfl ?_
      refine o_pk (.t (.d (.lit (.bool true)))) (b := true) h23 (g0 rfl) rfl rfl rfl rfl rfl ?_
      refine o_s (.t (.d (.lit (.bool true)))) (g0 rfl) rfl rfl rfl ?_
      refine o_skip rfl rfl rfl rfl rfl rfl ?_
      refine o_skip rfl rfl rfl rfl rfl rfl ?_
      refine o_skip rfl rfl rfl rfl rfl rfl ?_
      refine o_skip rfl rfl rfl rfl rfl rfl ?_
      refine o_pk (.t (.d (.lit (.bool true)))) (b := true) rfl (g0 rfl) rfl rfl rfl rfl rfl ?_
      refine o_s (.t (.d (.lit (.bool true)))) (g0 rfl) rfl rfl rfl ?_
      refine o_nil ?_
      repeat (first | refine then_normal ?_ | refine then_exit ?_ | refine then_ret ?_ | refine block_normal ?_ | refine block_ret ?_ | refine block_exit ?_ | refine block_pass rfl ?_)
      exact ⟨true, h, ⟨(.refl _), ⟨(.refl _), trivial⟩⟩, rfl⟩
    · refine o_s (.ref 1 1) (gy rfl rfl rfl h23) rfl rfl rfl ?_
      refine o_s (.t (.d (.lit (.string ⟨⟨p0.Item⟩⟩)))) (gy rfl rfl rfl h23) rfl rfl rfl ?_
      obtain ⟨x24, h25, h⟩ := bind_some h
      refine o_ca (fc_tree_Name _ _ h25) (gy rfl rfl rfl h23) rfl rfl rfl rfl rfl rfl rfl (.cons (.refl _) .nil) rfl rfl ?_
      refine o_s (.t (.d (.lit (.bool (!x24))))) (gy rfl rfl rfl h23) rfl rfl rfl ?_
      refine o_pk (.t (.d (.lit (.bool (!x24))))) (b := false) h23 (g0 rfl) rfl rfl rfl rfl rfl ?_
      refine o_s (.t (.d (.lit (.bool (!x24))))) (g0 rfl) rfl rfl rfl ?_
      rcases bif_some h with ⟨h26, h⟩ | ⟨h26, h⟩
      · refine o_skip rfl rfl rfl h26 rfl rfl ?_
        refine o_skip rfl rfl rfl h26 rfl rfl ?_
        refine o_skip rfl rfl rfl h26 rfl rfl ?_
        refine o_skip rfl rfl rfl h26 rfl rfl ?_
        refine o_pk (.t (.d (.lit (.bool true)))) (b := true) h26 (g0 rfl) rfl rfl rfl rfl rfl ?_
        refine o_s (.t (.d (.lit (.bool true)))) (g0 rfl) rfl rfl rfl ?_
        refine o_nil ?_
        repeat (first | refine then_normal ?_ | refine then_exit ?_ | refine then_ret ?_ | refine block_normal ?_ | refine block_ret ?_ | refine block_exit ?_ | refine block_pass rfl ?_)
        exact ⟨true, h, ⟨(.refl _), ⟨(.refl _), trivial⟩⟩, rfl⟩
      · refine o_s (.ref 1 9) (gy rfl rfl rfl h26) rfl rfl rfl ?_
        refine o_s (.t (.d (.lit (.string ⟨⟨p0.By⟩⟩)))) (gy rfl rfl rfl h26) rfl rfl rfl ?_
        obtain ⟨x27, h28, h⟩ := bind_some h
        refine o_ca (fc_tree_Name _ _ h28) (gy rfl rfl rfl h26) rfl rfl rfl rfl rfl rfl rfl (.cons (.refl _) .nil) rfl rfl ?_
        refine o_s (.t (.d (.lit (.bool (!x27))))) (gy rfl rfl rfl h26) rfl rfl rfl ?_
        refine o_pk (.t (.d (.lit (.bool (!x27))))) (b := false) h26 (g0 rfl) rfl rfl rfl rfl rfl ?_
        refine o_s (.t (.d (.lit (.bool (!x27))))) (g0 rfl) rfl rfl rfl ?_
        refine o_nil ?_
        repeat (first | refine then_normal ?_ | refine then_exit ?_ | refine then_ret ?_ | refine block_normal ?_ | refine block_ret ?_ | refine block_exit ?_ | refine block_pass rfl ?_)
        exact ⟨(!x27), h, ⟨(.refl _), ⟨(.refl _), trivial⟩⟩, rfl⟩
  · rintro y1 h
    rcases bif_some h with ⟨h2, h⟩ | ⟨h2, h⟩
    · refine c_t h2 rfl ?_
      refine c_seq ?_
      refine c_region ?_
      refine o_s (.t (.d (.lit (.bool false)))) (g0 rfl) rfl rfl rfl ?_
      refine o_nil ?_
      repeat (first | refine then_normal ?_ | refine then_exit ?_ | refine then_ret ?_ | refine block_normal ?_ | refine block_ret ?_ | refine block_exit ?_ | refine block_pass rfl ?_)
      refine c_ret ?_
      repeat (first | refine then_normal ?_ | refine then_exit ?_ | refine then_ret ?_ | refine block_normal ?_ | refine block_ret ?_ | refine block_exit ?_ | refine block_pass rfl ?_)
      obtain rfl := Option.some.inj h
      exact end0 rfl (.refl _)
    · refine c_f h2 rfl ?_
      refine c_cut (fun (y3 : Bool) => [(1, .box [.d (.lit (.string ⟨⟨p0.Folder⟩⟩)), .d (.lit (.string ⟨⟨p0.Item⟩⟩)), .d (.lit (.int .i64 p0.Number)), .d (.lit (.int .i64 p0.Epoch)), .d (.lit (.int .i64 p0.Seq)), .d (.seq 1 (bytesD p0.Digest)), .d (.lit (.bool p0.Gone)), .d (.seq 1 (bytesD p0.Lock)), .d (.seq 1 (bytesD p0.Body)), .d (.lit (.string ⟨⟨p0.By⟩⟩))]), (20, .t (.d (.lit (.bool y3))))]) (fun (y3 : Bool) => m_record_mayVersion_j2 p0 y3 = some r) ?_ ?_
      · refine c_region ?_
        refine o_s (.ref 1 2) (g0 rfl) rfl rfl rfl ?_
        refine o_s (.t (.d (.lit (.int .i64 p0.Number)))) (g0 rfl) rfl rfl rfl ?_
        refine o_s (.t (.d (.lit (.bool (decide (p0.Number < 1)))))) (g0 rfl) rfl rfl rfl ?_
        refine o_s (.t (.d (.lit (.bool (decide (p0.Number < 1)))))) (g0 rfl) rfl rfl rfl ?_
        rcases bif_some h with ⟨h11, h⟩ | ⟨h11, h⟩
        · refine o_skip rfl rfl rfl h11 rfl rfl ?_
          refine o_skip rfl rfl rfl h11 rfl rfl ?_
          refine o_skip rfl rfl rfl h11 rfl rfl ?_
          refine o_pk (.t (.d (.lit (.bool true)))) (b := true) h11 (g0 rfl) rfl rfl rfl rfl rfl ?_
          refine o_s (.t (.d (.lit (.bool true)))) (g0 rfl) rfl rfl rfl ?_
          refine o_skip rfl rfl rfl rfl rfl rfl ?_
          refine o_skip rfl rfl rfl rfl rfl rfl ?_
          refine o_skip rfl rfl rfl rfl rfl rfl ?_
          refine o_skip rfl rfl rfl rfl rfl rfl ?_
          refine o_pk (.t (.d (.lit (.bool true)))) (b := true) rfl (g0 rfl) rfl rfl rfl rfl rfl ?_
          refine o_s (.t (.d (.lit (.bool true)))) (g0 rfl) rfl rfl rfl ?_
          refine o_skip rfl rfl rfl rfl rfl rfl ?_
          refine o_skip rfl rfl rfl rfl rfl rfl ?_
          refine o_skip rfl rfl rfl rfl rfl rfl ?_
          refine o_skip rfl rfl rfl rfl rfl rfl ?_
          refine o_pk (.t (.d (.lit (.bool true)))) (b := true) rfl (g0 rfl) rfl rfl rfl rfl rfl ?_
          refine o_s (.t (.d (.lit (.bool true)))) (g0 rfl) rfl rfl rfl ?_
          refine o_skip rfl rfl rfl rfl rfl rfl ?_
          refine o_skip rfl rfl rfl rfl rfl rfl ?_
          refine o_skip rfl rfl rfl rfl rfl rfl ?_
          refine o_skip rfl rfl rfl rfl rfl rfl ?_
          refine o_pk (.t (.d (.lit (.bool true)))) (b := true) rfl (g0 rfl) rfl rfl rfl rfl rfl ?_
          refine o_s (.t (.d (.lit (.bool true)))) (g0 rfl) rfl rfl rfl ?_
          refine o_nil ?_
          repeat (first | refine then_normal ?_ | refine then_exit ?_ | refine then_ret ?_ | refine block_normal ?_ | refine block_ret ?_ | refine block_exit ?_ | refine block_pass rfl ?_)
          exact ⟨true, h, ⟨(.refl _), ⟨(.refl _), trivial⟩⟩, rfl⟩
        · refine o_s (.ref 1 2) (gy rfl rfl rfl h11) rfl rfl rfl ?_
          refine o_s (.t (.d (.lit (.int .i64 p0.Number)))) (gy rfl rfl rfl h11) rfl rfl rfl ?_
          refine o_s (.t (.d (.lit (.bool (decide (p0.Number > 256)))))) (gy rfl rfl rfl h11) rfl rfl rfl ?_
          refine o_pk (.t (.d (.lit (.bool (decide (p0.Number > 256)))))) (b := false) h11 (g0 rfl) rfl rfl rfl rfl rfl ?_
          refine o_s (.t (.d (.lit (.bool (decide (p0.Number > 256)))))) (g0 rfl) rfl rfl rfl ?_
          rcases bif_some h with ⟨h12, h⟩ | ⟨h12, h⟩
          · refine o_skip rfl rfl rfl h12 rfl rfl ?_
            refine o_skip rfl rfl rfl h12 rfl rfl ?_
            refine o_skip rfl rfl rfl h12 rfl rfl ?_
            refine o_skip rfl rfl rfl h12 rfl rfl ?_
            refine o_pk (.t (.d (.lit (.bool true)))) (b := true) h12 (g0 rfl) rfl rfl rfl rfl rfl ?_
            refine o_s (.t (.d (.lit (.bool true)))) (g0 rfl) rfl rfl rfl ?_
            refine o_skip rfl rfl rfl rfl rfl rfl ?_
            refine o_skip rfl rfl rfl rfl rfl rfl ?_
            refine o_skip rfl rfl rfl rfl rfl rfl ?_
            refine o_skip rfl rfl rfl rfl rfl rfl ?_
            refine o_pk (.t (.d (.lit (.bool true)))) (b := true) rfl (g0 rfl) rfl rfl rfl rfl rfl ?_
            refine o_s (.t (.d (.lit (.bool true)))) (g0 rfl) rfl rfl rfl ?_
            refine o_skip rfl rfl rfl rfl rfl rfl ?_
            refine o_skip rfl rfl rfl rfl rfl rfl ?_
            refine o_skip rfl rfl rfl rfl rfl rfl ?_
            refine o_skip rfl rfl rfl rfl rfl rfl ?_
            refine o_pk (.t (.d (.lit (.bool true)))) (b := true) rfl (g0 rfl) rfl rfl rfl rfl rfl ?_
            refine o_s (.t (.d (.lit (.bool true)))) (g0 rfl) rfl rfl rfl ?_
            refine o_nil ?_
            repeat (first | refine then_normal ?_ | refine then_exit ?_ | refine then_ret ?_ | refine block_normal ?_ | refine block_ret ?_ | refine block_exit ?_ | refine block_pass rfl ?_)
            exact ⟨true, h, ⟨(.refl _), ⟨(.refl _), trivial⟩⟩, rfl⟩
          · refine o_s (.ref 1 3) (gy rfl rfl rfl h12) rfl rfl rfl ?_
            refine o_s (.t (.d (.lit (.int .i64 p0.Epoch)))) (gy rfl rfl rfl h12) rfl rfl rfl ?_
            obtain ⟨x13, h14, h⟩ := bind_some h
            refine o_ca (fc_record_seq _ _ h14) (gy rfl rfl rfl h12) rfl rfl rfl rfl rfl rfl rfl (.cons (.refl _) .nil) rfl rfl ?_
            refine o_s (.t (.d (.lit (.bool (!x13))))) (gy rfl rfl rfl h12) rfl rfl rfl ?_
            refine o_pk (.t (.d (.lit (.bool (!x13))))) (b := false) h12 (g0 rfl) rfl rfl rfl rfl rfl ?_
            refine o_s (.t (.d (.lit (.bool (!x13))))) (g0 rfl) rfl rfl rfl ?_
            rcases bif_some h with ⟨h15, h⟩ | ⟨h15, h⟩
            · refine o_skip rfl rfl rfl h15 rfl rfl ?_
              refine o_skip rfl rfl rfl h15 rfl rfl ?_
              refine o_skip rfl rfl rfl h15 rfl rfl ?_
              refine o_skip rfl rfl rfl h15 rfl rfl ?_
              refine o_pk (.t (.d (.lit (.bool true)))) (b := true) h15 (g0 rfl) rfl rfl rfl rfl rfl ?_
              refine o_s (.t (.d (.lit (.bool true)))) (g0 rfl) rfl rfl rfl ?_
              refine o_skip rfl rfl rfl rfl rfl rfl ?_
              refine o_skip rfl rfl rfl rfl rfl rfl ?_
              refine o_skip rfl rfl rfl rfl rfl rfl ?_
              refine o_skip rfl rfl rfl rfl rfl rfl ?_
              refine o_pk (.t (.d (.lit (.bool true)))) (b := true) rfl (g0 rfl) rfl rfl rfl rfl rfl ?_
              refine o_s (.t (.d (.lit (.bool true)))) (g0 rfl) rfl rfl rfl ?_
              refine o_nil ?_
              repeat (first | refine then_normal ?_ | refine then_exit ?_ | refine then_ret ?_ | refine block_normal ?_ | refine block_ret ?_ | refine block_exit ?_ | refine block_pass rfl ?_)
              exact ⟨true, h, ⟨(.refl _), ⟨(.refl _), trivial⟩⟩, rfl⟩
            · refine o_s (.ref 1 4) (gy rfl rfl rfl h15) rfl rfl rfl ?_
              refine o_s (.t (.d (.lit (.int .i64 p0.Seq)))) (gy rfl rfl rfl h15) rfl rfl rfl ?_
              obtain ⟨x16, h17, h⟩ := bind_some h
              refine o_ca (fc_record_seq _ _ h17) (gy rfl rfl rfl h15) rfl rfl rfl rfl rfl rfl rfl (.cons (.refl _) .nil) rfl rfl ?_
              refine o_s (.t (.d (.lit (.bool (!x16))))) (gy rfl rfl rfl h15) rfl rfl rfl ?_
              refine o_pk (.t (.d (.lit (.bool (!x16))))) (b := false) h15 (g0 rfl) rfl rfl rfl rfl rfl ?_
              refine o_s (.t (.d (.lit (.bool (!x16))))) (g0 rfl) rfl rfl rfl ?_
              rcases bif_some h with ⟨h18, h⟩ | ⟨h18, h⟩
              · refine o_skip rfl rfl rfl h18 rfl rfl ?_
                refine o_skip rfl rfl rfl h18 rfl rfl ?_
                refine o_skip rfl rfl rfl h18 rfl rfl ?_
                refine o_skip rfl rfl rfl h18 rfl rfl ?_
                refine o_pk (.t (.d (.lit (.bool true)))) (b := true) h18 (g0 rfl) rfl rfl rfl rfl rfl ?_
                refine o_s (.t (.d (.lit (.bool true)))) (g0 rfl) rfl rfl rfl ?_
                refine o_nil ?_
                repeat (first | refine then_normal ?_ | refine then_exit ?_ | refine then_ret ?_ | refine block_normal ?_ | refine block_ret ?_ | refine block_exit ?_ | refine block_pass rfl ?_)
                exact ⟨true, h, ⟨(.refl _), ⟨(.refl _), trivial⟩⟩, rfl⟩
              · refine o_s (.ref 1 5) (gy rfl rfl rfl h18) rfl rfl rfl ?_
                refine o_s (.t (.d (.seq 1 (bytesD p0.Digest)))) (gy rfl rfl rfl h18) rfl rfl rfl ?_
                obtain ⟨x19, h20, h⟩ := bind_some h
                refine o_ca (fc_record_long _ _ _ h20) (gy rfl rfl rfl h18) rfl rfl rfl rfl rfl rfl rfl (.cons (.refl _) (.cons (.refl _) .nil)) rfl rfl ?_
                refine o_s (.t (.d (.lit (.bool (!x19))))) (gy rfl rfl rfl h18) rfl rfl rfl ?_
                refine o_pk (.t (.d (.lit (.bool (!x19))))) (b := false) h18 (g0 rfl) rfl rfl rfl rfl rfl ?_
                refine o_s (.t (.d (.lit (.bool (!x19))))) (g0 rfl) rfl rfl rfl ?_
                refine o_nil ?_
                repeat (first | refine then_normal ?_ | refine then_exit ?_ | refine then_ret ?_ | refine block_normal ?_ | refine block_ret ?_ | refine block_exit ?_ | refine block_pass rfl ?_)
                exact ⟨(!x19), h, ⟨(.refl _), ⟨(.refl _), trivial⟩⟩, rfl⟩
      · rintro y3 h
        rcases bif_some h with ⟨h4, h⟩ | ⟨h4, h⟩
        · refine c_t h4 rfl ?_
          refine c_seq ?_
          refine c_region ?_
          refine o_s (.t (.d (.lit (.bool false)))) (g0 rfl) rfl rfl rfl ?_
          refine o_nil ?_
          repeat (first | refine then_normal ?_ | refine then_exit ?_ | refine then_ret ?_ | refine block_normal ?_ | refine block_ret ?_ | refine block_exit ?_ | refine block_pass rfl ?_)
          refine c_ret ?_
          repeat (first | refine then_normal ?_ | refine then_exit ?_ | refine then_ret ?_ | refine block_normal ?_ | refine block_ret ?_ | refine block_exit ?_ | refine block_pass rfl ?_)
          obtain rfl := Option.some.inj h
          exact end0 rfl (.refl _)
        · refine c_f h4 rfl ?_
          refine c_seq ?_
          refine c_region ?_
          refine o_s (.ref 1 6) (g0 rfl) rfl rfl rfl ?_
          refine o_s (.t (.d (.lit (.bool p0.Gone)))) (g0 rfl) rfl rfl rfl ?_
          refine o_s (.t (.d (.lit (.bool p0.Gone)))) (g0 rfl) rfl rfl rfl ?_
          refine o_nil ?_
          repeat (first | refine then_normal ?_ | refine then_exit ?_ | refine then_ret ?_ | refine block_normal ?_ | refine block_ret ?_ | refine block_exit ?_ | refine block_pass rfl ?_)
          rcases bif_some h with ⟨h5, h⟩ | ⟨h5, h⟩
          · refine c_t h5 rfl ?_
            refine c_seq ?_
            refine c_region ?_
            refine o_s (.ref 1 7) (g0 rfl) rfl rfl rfl ?_
            refine o_s (.t (.d (.seq 1 (bytesD p0.Lock)))) (g0 rfl) rfl rfl rfl ?_
            refine o_c (g0 rfl) rfl rfl rfl (lenE _ _) trivial ?_
            refine o_s (.ref 1 8) (g0 rfl) rfl rfl rfl ?_
            refine o_s (.t (.d (.seq 1 (bytesD p0.Body)))) (g0 rfl) rfl rfl rfl ?_
            refine o_c (g0 rfl) rfl rfl rfl (lenE _ _) trivial ?_
            refine o_s (.t (.d (.lit (.int .i64 (wi ((p0.Lock.length : Int) + (p0.Body.length : Int))))))) (g0 rfl) rfl rfl rfl ?_
            refine o_s (.t (.d (.lit (.bool ((wi ((p0.Lock.length : Int) + (p0.Body.length : Int))) == 0))))) (g0 rfl) rfl rfl rfl ?_
            refine o_s (.t (.d (.lit (.bool ((wi ((p0.Lock.length : Int) + (p0.Body.length : Int))) == 0))))) (g0 rfl) rfl rfl rfl ?_
            refine o_nil ?_
            repeat (first | refine then_normal ?_ | refine then_exit ?_ | refine then_ret ?_ | refine block_normal ?_ | refine block_ret ?_ | refine block_exit ?_ | refine block_pass rfl ?_)
            refine c_ret ?_
            repeat (first | refine then_normal ?_ | refine then_exit ?_ | refine then_ret ?_ | refine block_normal ?_ | refine block_ret ?_ | refine block_exit ?_ | refine block_pass rfl ?_)
            obtain rfl := Option.some.inj h
            exact end0 rfl (.refl _)
          · refine c_f h5 rfl ?_
            refine c_skip ?_
            repeat (first | refine then_normal ?_ | refine then_exit ?_ | refine then_ret ?_ | refine block_normal ?_ | refine block_ret ?_ | refine block_exit ?_ | refine block_pass rfl ?_)
            refine c_seq ?_
            refine c_region ?_
            refine o_s (.ref 1 7) (g0 rfl) rfl rfl rfl ?_
            refine o_s (.t (.d (.seq 1 (bytesD p0.Lock)))) (g0 rfl) rfl rfl rfl ?_
            obtain ⟨x6, h7, h⟩ := bind_some h
            refine o_ca (fc_record_long _ _ _ h7) (g0 rfl) rfl rfl rfl rfl rfl rfl rfl (.cons (.refl _) (.cons (.refl _) .nil)) rfl rfl ?_
            refine o_s (.t (.d (.lit (.bool x6)))) (g0 rfl) rfl rfl rfl ?_
            rcases bif_some h with ⟨h8, h⟩ | ⟨h8, h⟩
            · refine o_s (.ref 1 8) (gy rfl rfl rfl h8) rfl rfl rfl ?_
              refine o_s (.t (.d (.seq 1 (bytesD p0.Body)))) (gy rfl rfl rfl h8) rfl rfl rfl ?_
              obtain ⟨x9, h10, h⟩ := bind_some h
              refine o_ca (fc_record_long _ _ _ h10) (gy rfl rfl rfl h8) rfl rfl rfl rfl rfl rfl rfl (.cons (.refl _) (.cons (.refl _) .nil)) rfl rfl ?_
              refine o_pk (.t (.d (.lit (.bool x9)))) (b := true) h8 (g0 rfl) rfl rfl rfl rfl rfl ?_
              refine o_s (.t (.d (.lit (.bool x9)))) (g0 rfl) rfl rfl rfl ?_
              refine o_nil ?_
              repeat (first | refine then_normal ?_ | refine then_exit ?_ | refine then_ret ?_ | refine block_normal ?_ | refine block_ret ?_ | refine block_exit ?_ | refine block_pass rfl ?_)
              refine c_ret ?_
              repeat (first | refine then_normal ?_ | refine then_exit ?_ | refine then_ret ?_ | refine block_normal ?_ | refine block_ret ?_ | refine block_exit ?_ | refine block_pass rfl ?_)
              obtain rfl := Option.some.inj h
              exact end0 rfl (.refl _)
            · refine o_skip rfl rfl rfl h8 rfl rfl ?_
              refine o_skip rfl rfl rfl h8 rfl rfl ?_
              refine o_skip rfl rfl rfl h8 rfl rfl ?_
              refine o_pk (.t (.d (.lit (.bool false)))) (b := false) h8 (g0 rfl) rfl rfl rfl rfl rfl ?_
              refine o_s (.t (.d (.lit (.bool false)))) (g0 rfl) rfl rfl rfl ?_
              refine o_nil ?_
              repeat (first | refine then_normal ?_ | refine then_exit ?_ | refine then_ret ?_ | refine block_normal ?_ | refine block_ret ?_ | refine block_exit ?_ | refine block_pass rfl ?_)
              refine c_ret ?_
              repeat (first | refine then_normal ?_ | refine then_exit ?_ | refine then_ret ?_ | refine block_normal ?_ | refine block_ret ?_ | refine block_exit ?_ | refine block_pass rfl ?_)
              obtain rfl := Option.some.inj h
              exact end0 rfl (.refl _)

theorem fc_record_text (p0 : (List UInt8)) (r : V) (h : m_record_text p0 = some r) : FC Tryd.prog 51 [.t (.d (.lit (.string ⟨⟨p0⟩⟩)))] [] (.t (.agg [.lit (.int .i64 r.k), .lit (.int .i64 r.n), .seq 1 (bytesD r.b), .lit (.slice none 0 0)])) := by
  refine fc_mk (rs := [.cell 2 79]) (n := 6) Tryd.func51 rfl rfl (Nat.le_of_ble_eq_true rfl) rfl (pins := []) rfl (L := [(0, .t (.d (.lit (.string ⟨⟨p0⟩⟩))))]) rfl ?_
  refine c_seq ?_
  refine c_region ?_
  refine o_s (.box [.d (.lit (.int .i64 0)), .d (.lit (.int .i64 0)), .d (.lit (.slice none 0 0)), .d (.lit (.slice none 0 0))]) (g0 rfl) rfl rfl rfl ?_
  refine o_nil ?_
  repeat (first | refine then_normal ?_ | refine then_exit ?_ | refine then_ret ?_ | refine block_normal ?_ | refine block_ret ?_ | refine block_exit ?_ | refine block_pass rfl ?_)
  refine c_seq ?_
  refine c_region ?_
  refine o_s (.t (.d (.lit (.string ⟨⟨p0⟩⟩)))) (g0 rfl) rfl rfl rfl ?_
  obtain ⟨x1, h2, h⟩ := bind_some h
  refine o_c (g0 rfl) rfl rfl rfl (strBE h2) (strBC h2) ?_
  obtain ⟨x3, h4, h⟩ := bind_some h
  refine o_ca (fc_codec_Raw _ _ h4) (g0 rfl) rfl rfl rfl rfl rfl rfl rfl (.cons (.refl _) .nil) rfl rfl ?_
  refine o_st (.box [.d (.lit (.int .i64 x3.k)), .d (.lit (.int .i64 x3.n)), .d (.seq 1 (bytesD x3.b)), .d (.lit (.slice none 0 0))]) (g0 rfl) rfl rfl rfl ?_
  refine o_nil ?_
  repeat (first | refine then_normal ?_ | refine then_exit ?_ | refine then_ret ?_ | refine block_normal ?_ | refine block_ret ?_ | refine block_exit ?_ | refine block_pass rfl ?_)
  refine c_ret ?_
  repeat (first | refine then_normal ?_ | refine then_exit ?_ | refine then_ret ?_ | refine block_normal ?_ | refine block_ret ?_ | refine block_exit ?_ | refine block_pass rfl ?_)
  obtain rfl := Option.some.inj h
  exact end0 rfl (.refl _)

theorem fc_record_VersionText (p0 : S_api_VersionRecord) (r : ((List UInt8) × Int)) (h : m_record_VersionText p0 = some r) : FC Tryd.prog 20 [.t (.agg [.lit (.string ⟨⟨p0.Folder⟩⟩), .lit (.string ⟨⟨p0.Item⟩⟩), .lit (.int .i64 p0.Number), .lit (.int .i64 p0.Epoch), .lit (.int .i64 p0.Seq), .seq 1 (bytesD p0.Digest), .lit (.bool p0.Gone), .seq 1 (bytesD p0.Lock), .seq 1 (bytesD p0.Body), .lit (.string ⟨⟨p0.By⟩⟩)])] [] (.tup [.d (.seq 1 (bytesD r.1)), .d (.lit (.int .i64 r.2))]) := by
  refine fc_mk (rs := [.tmp 2, .tmp 3]) (n := 45) Tryd.func20 rfl rfl (Nat.le_of_ble_eq_true rfl) rfl (pins := []) rfl (L := [(0, .t (.agg [.lit (.string ⟨⟨p0.Folder⟩⟩), .lit (.string ⟨⟨p0.Item⟩⟩), .lit (.int .i64 p0.Number), .lit (.int .i64 p0.Epoch), .lit (.int .i64 p0.Seq), .seq 1 (bytesD p0.Digest), .lit (.bool p0.Gone), .seq 1 (bytesD p0.Lock), .seq 1 (bytesD p0.Body), .lit (.string ⟨⟨p0.By⟩⟩)]))]) rfl ?_
  refine c_seq ?_
  refine c_region ?_
  refine o_s (.box [.d (.lit (.string ⟨⟨p0.Folder⟩⟩)), .d (.lit (.string ⟨⟨p0.Item⟩⟩)), .d (.lit (.int .i64 p0.Number)), .d (.lit (.int .i64 p0.Epoch)), .d (.lit (.int .i64 p0.Seq)), .d (.seq 1 (bytesD p0.Digest)), .d (.lit (.bool p0.Gone)), .d (.seq 1 (bytesD p0.Lock)), .d (.seq 1 (bytesD p0.Body)), .d (.lit (.string ⟨⟨p0.By⟩⟩))]) (g0 rfl) rfl rfl rfl ?_
  refine o_s (.t (.d (.lit (.slice none 0 0)))) (g0 rfl) rfl rfl rfl ?_
  refine o_s (.t (.d (.lit (.int .i64 0)))) (g0 rfl) rfl rfl rfl ?_
  refine o_nil ?_
  repeat (first | refine then_normal ?_ | refine then_exit ?_ | refine then_ret ?_ | refine block_normal ?_ | refine block_ret ?_ | refine block_exit ?_ | refine block_pass rfl ?_)
  refine c_seq ?_
  refine c_seq ?_
  refine c_region ?_
  refine o_s (.t (.agg [.lit (.string ⟨⟨p0.Folder⟩⟩), .lit (.string ⟨⟨p0.Item⟩⟩), .lit (.int .i64 p0.Number), .lit (.int .i64 p0.Epoch), .lit (.int .i64 p0.Seq), .seq 1 (bytesD p0.Digest), .lit (.bool p0.Gone), .seq 1 (bytesD p0.Lock), .seq 1 (bytesD p0.Body), .lit (.string ⟨⟨p0.By⟩⟩)])) (g0 rfl) rfl rfl rfl ?_
  obtain ⟨x1, h2, h⟩ := bind_some h
  refine o_ca (fc_record_mayVersion _ _ h2) (g0 rfl) rfl rfl rfl rfl rfl rfl rfl (.cons (.refl _) .nil) rfl rfl ?_
  refine o_s (.t (.d (.lit (.bool (!x1))))) (g0 rfl) rfl rfl rfl ?_
  refine o_nil ?_
  repeat (first | refine then_normal ?_ | refine then_exit ?_ | refine then_ret ?_ | refine block_normal ?_ | refine block_ret ?_ | refine block_exit ?_ | refine block_pass rfl ?_)
  rcases bif_some h with ⟨h3, h⟩ | ⟨h3, h⟩
  · refine c_t h3 rfl ?_
    refine c_seq ?_
    refine c_region ?_
    refine o_s (.t (.d (.lit (.slice none 0 0)))) (g0 rfl) rfl rfl rfl ?_
    refine o_s (.t (.d (.lit (.int .i64 2)))) (g0 rfl) rfl rfl rfl ?_
    refine o_nil ?_
    repeat (first | refine then_normal ?_ | refine then_exit ?_ | refine then_ret ?_ | refine block_normal ?_ | refine block_ret ?_ | refine block_exit ?_ | refine block_pass rfl ?_)
    refine c_ret ?_
    repeat (first | refine then_normal ?_ | refine then_exit ?_ | refine then_ret ?_ | refine block_normal ?_ | refine block_ret ?_ | refine block_exit ?_ | refine block_pass rfl ?_)
    obtain rfl := Option.some.inj h
    exact end0 rfl (.tup (.cons (.d (.nil _)) (.cons (.refl _) .nil)))
  · refine c_f h3 rfl ?_
    refine c_skip ?_
    repeat (first | refine then_normal ?_ | refine then_exit ?_ | refine then_ret ?_ | refine block_normal ?_ | refine block_ret ?_ | refine block_exit ?_ | refine block_pass rfl ?_)
    refine c_seq ?_
    refine c_region ?_
    refine o_s (.t (.d (.lit (.int .i64 0)))) (g0 rfl) rfl rfl rfl ?_
    refine o_nil ?_
    repeat (first | refine then_normal ?_ | refine then_exit ?_ | refine then_ret ?_ | refine block_normal ?_ | refine block_ret ?_ | refine block_exit ?_ | refine block_pass rfl ?_)
    refine c_cut (fun (y4 : Int) => [(1, .box [.d (.lit (.string ⟨⟨p0.Folder⟩⟩)), .d (.lit (.string ⟨⟨p0.Item⟩⟩)), .d (.lit (.int .i64 p0.Number)), .d (.lit (.int .i64 p0.Epoch)), .d (.lit (.int .i64 p0.Seq)), .d (.seq 1 (bytesD p0.Digest)), .d (.lit (.bool p0.Gone)), .d (.seq 1 (bytesD p0.Lock)), .d (.seq 1 (bytesD p0.Body)), .d (.lit (.string ⟨⟨p0.By⟩⟩))]), (4, .t (.d (.lit (.int .i64 y4))))]) (fun (y4 : Int) => m_record_VersionText_j1 p0 y4 = some r) ?_ ?_
    · refine c_seq ?_
      refine c_region ?_
      refine o_s (.ref 1 6) (g0 rfl) rfl rfl rfl ?_
      refine o_s (.t (.d (.lit (.bool p0.Gone)))) (g0 rfl) rfl rfl rfl ?_
      refine o_nil ?_
      repeat (first | refine then_normal ?_ | refine then_exit ?_ | refine then_ret ?_ | refine block_normal ?_ | refine block_ret ?_ | refine block_exit ?_ | refine block_pass rfl ?_)
      rcases bif_some h with ⟨h31, h⟩ | ⟨h31, h⟩
      · refine c_t h31 rfl ?_
        refine c_region ?_
        refine o_s (.t (.d (.lit (.int .i64 1)))) (g0 rfl) rfl rfl rfl ?_
        refine o_nil ?_
        repeat (first | refine then_normal ?_ | refine then_exit ?_ | refine then_ret ?_ | refine block_normal ?_ | refine block_ret ?_ | refine block_exit ?_ | refine block_pass rfl ?_)
        exact ⟨1, h, ⟨(.refl _), ⟨(.refl _), trivial⟩⟩, rfl⟩
      · refine c_f h31 rfl ?_
        refine c_skip ?_
        repeat (first | refine then_normal ?_ | refine then_exit ?_ | refine then_ret ?_ | refine block_normal ?_ | refine block_ret ?_ | refine block_exit ?_ | refine block_pass rfl ?_)
        exact ⟨0, h, ⟨(.refl _), ⟨(.refl _), trivial⟩⟩, rfl⟩
    · rintro y4 h
      refine c_seq ?_
      refine c_draw mixed (by kernel_rfl) ?_
      obtain ⟨x5, h6, h⟩ := bind_some h
      refine d_ca (fc_record_text _ _ h6) rfl (dg0 rfl) rfl rfl rfl rfl rfl rfl rfl rfl (.cons (.refl _) .nil) rfl rfl ?_
      refine d_s (.ref 1 0) rfl (dg0 rfl) rfl rfl rfl rfl ?_
      refine d_s (.t (.d (.lit (.string ⟨⟨p0.Folder⟩⟩)))) rfl (dg0 rfl) rfl rfl rfl rfl ?_
      obtain ⟨x7, h8, h⟩ := bind_some h
      refine d_ca (fc_record_text _ _ h8) rfl (dg0 rfl) rfl rfl rfl rfl rfl rfl rfl rfl (.cons (.refl _) .nil) rfl rfl ?_
      refine d_s (.ref 1 1) rfl (dg0 rfl) rfl rfl rfl rfl ?_
      refine d_s (.t (.d (.lit (.string ⟨⟨p0.Item⟩⟩)))) rfl (dg0 rfl) rfl rfl rfl rfl ?_
      obtain ⟨x9, h10, h⟩ := bind_some h
      refine d_ca (fc_record_text _ _ h10) rfl (dg0 rfl) rfl rfl rfl rfl rfl rfl rfl rfl (.cons (.refl _) .nil) rfl rfl ?_
      refine d_s (.ref 1 2) rfl (dg0 rfl) rfl rfl rfl rfl ?_
      refine d_s (.t (.d (.lit (.int .i64 p0.Number)))) rfl (dg0 rfl) rfl rfl rfl rfl ?_
      obtain ⟨x11, h12, h⟩ := bind_some h
      refine d_ca (fc_codec_Num _ _ h12) rfl (dg0 rfl) rfl rfl rfl rfl rfl rfl rfl rfl (.cons (.refl _) .nil) rfl rfl ?_
      refine d_s (.ref 1 3) rfl (dg0 rfl) rfl rfl rfl rfl ?_
      refine d_s (.t (.d (.lit (.int .i64 p0.Epoch)))) rfl (dg0 rfl) rfl rfl rfl rfl ?_
      obtain ⟨x13, h14, h⟩ := bind_some h
      refine d_ca (fc_codec_Num _ _ h14) rfl (dg0 rfl) rfl rfl rfl rfl rfl rfl rfl rfl (.cons (.refl _) .nil) rfl rfl ?_
      refine d_s (.ref 1 4) rfl (dg0 rfl) rfl rfl rfl rfl ?_
      refine d_s (.t (.d (.lit (.int .i64 p0.Seq)))) rfl (dg0 rfl) rfl rfl rfl rfl ?_
      obtain ⟨x15, h16, h⟩ := bind_some h
      refine d_ca (fc_codec_Num _ _ h16) rfl (dg0 rfl) rfl rfl rfl rfl rfl rfl rfl rfl (.cons (.refl _) .nil) rfl rfl ?_
      refine d_s (.ref 1 5) rfl (dg0 rfl) rfl rfl rfl rfl ?_
      refine d_s (.t (.d (.seq 1 (bytesD p0.Digest)))) rfl (dg0 rfl) rfl rfl rfl rfl ?_
      obtain ⟨x17, h18, h⟩ := bind_some h
      refine d_ca (fc_codec_Raw _ _ h18) rfl (dg0 rfl) rfl rfl rfl rfl rfl rfl rfl rfl (.cons (.refl _) .nil) rfl rfl ?_
      refine d_s (.t (.d (.lit (.int .i64 y4)))) rfl (dg0 rfl) rfl rfl rfl rfl ?_
      obtain ⟨x19, h20, h⟩ := bind_some h
      refine d_ca (fc_codec_Num _ _ h20) rfl (dg0 rfl) rfl rfl rfl rfl rfl rfl rfl rfl (.cons (.refl _) .nil) rfl rfl ?_
      refine d_s (.ref 1 7) rfl (dg0 rfl) rfl rfl rfl rfl ?_
      refine d_s (.t (.d (.seq 1 (bytesD p0.Lock)))) rfl (dg0 rfl) rfl rfl rfl rfl ?_
      obtain ⟨x21, h22, h⟩ := bind_some h
      refine d_ca (fc_codec_Raw _ _ h22) rfl (dg0 rfl) rfl rfl rfl rfl rfl rfl rfl rfl (.cons (.refl _) .nil) rfl rfl ?_
      refine d_s (.ref 1 8) rfl (dg0 rfl) rfl rfl rfl rfl ?_
      refine d_s (.t (.d (.seq 1 (bytesD p0.Body)))) rfl (dg0 rfl) rfl rfl rfl rfl ?_
      obtain ⟨x23, h24, h⟩ := bind_some h
      refine d_ca (fc_codec_Raw _ _ h24) rfl (dg0 rfl) rfl rfl rfl rfl rfl rfl rfl rfl (.cons (.refl _) .nil) rfl rfl ?_
      refine d_s (.ref 1 9) rfl (dg0 rfl) rfl rfl rfl rfl ?_
      refine d_s (.t (.d (.lit (.string ⟨⟨p0.By⟩⟩)))) rfl (dg0 rfl) rfl rfl rfl rfl ?_
      obtain ⟨x25, h26, h⟩ := bind_some h
      refine d_ca (fc_record_text _ _ h26) rfl (dg0 rfl) rfl rfl rfl rfl rfl rfl rfl rfl (.cons (.refl _) .nil) rfl rfl ?_
      refine d_w (.t (.own 79 4 (List.map V.cells [(V.mk x5.k x5.n x5.b []), (V.mk x7.k x7.n x7.b []), (V.mk x9.k x9.n x9.b []), (V.mk x11.k x11.n [] []), (V.mk x13.k x13.n [] []), (V.mk x15.k x15.n [] []), (V.mk x17.k x17.n x17.b []), (V.mk x19.k x19.n [] []), (V.mk x21.k x21.n x21.b []), (V.mk x23.k x23.n x23.b []), (V.mk x25.k x25.n x25.b [])]))) rfl (dg0 rfl) rfl rfl rfl rfl (.t (.rows _ _ (.cons (.cons (.refl _) (.cons (.refl _) (.cons (.refl _) (.cons (.nil _) .nil)))) (.cons (.cons (.refl _) (.cons (.refl _) (.cons (.refl _) (.cons (.nil _) .nil)))) (.cons (.cons (.refl _) (.cons (.refl _) (.cons (.refl _) (.cons (.nil _) .nil)))) (.cons (.cons (.refl _) (.cons (.refl _) (.cons (.nil _) (.cons (.nil _) .nil)))) (.cons (.cons (.refl _) (.cons (.refl _) (.cons (.nil _) (.cons (.nil _) .nil)))) (.cons (.cons (.refl _) (.cons (.refl _) (.cons (.nil _) (.cons (.nil _) .nil)))) (.cons (.cons (.refl _) (.cons (.refl _) (.cons (.refl _) (.cons (.nil _) .nil)))) (.cons (.cons (.refl _) (.cons (.refl _) (.cons (.nil _) (.cons (.nil _) .nil)))) (.cons (.cons (.refl _) (.cons (.refl _) (.cons (.refl _) (.cons (.nil _) .nil)))) (.cons (.cons (.refl _) (.cons (.refl _) (.cons (.refl _) (.cons (.nil _) .nil)))) (.cons (.cons (.refl _) (.cons (.refl _) (.cons (.refl _) (.cons (.nil _) .nil)))) .nil))))))))))) (rowsE V.cells_eq [(V.mk x5.k x5.n x5.b []), (V.mk x7.k x7.n x7.b []), (V.mk x9.k x9.n x9.b []), (V.mk x11.k x11.n [] []), (V.mk x13.k x13.n [] []), (V.mk x15.k x15.n [] []), (V.mk x17.k x17.n x17.b []), (V.mk x19.k x19.n [] []), (V.mk x21.k x21.n x21.b []), (V.mk x23.k x23.n x23.b []), (V.mk x25.k x25.n x25.b [])]))) (fun e => nomatch e) ?_
      obtain ⟨x27, h28, h⟩ := bind_some h
      refine d_ca (fc_codec_Of _ _ h28) rfl (dg0 rfl) rfl rfl rfl rfl rfl rfl rfl rfl (.cons (.refl _) .nil) rfl rfl ?_
      obtain ⟨x29, h30, h⟩ := bind_some h
      refine d_ca (fc_codec_Encode _ _ h30) rfl (dg0 rfl) rfl rfl rfl rfl rfl rfl rfl rfl (.cons (.t (.agg (.cons (.refl _) (.cons (.refl _) (.cons (.nil _) (.cons (.refl _) .nil)))))) .nil) rfl rfl ?_
      refine d_s (.t (.d (.seq 1 (bytesD x29.1)))) rfl (dg0 rfl) rfl rfl rfl rfl ?_
      refine d_s (.t (.d (.lit (.int .i64 x29.2)))) rfl (dg0 rfl) rfl rfl rfl rfl ?_
      refine d_s (.t (.d (.seq 1 (bytesD x29.1)))) rfl (dg0 rfl) rfl rfl rfl rfl ?_
      refine d_s (.t (.d (.lit (.int .i64 x29.2)))) rfl (dg0 rfl) rfl rfl rfl rfl ?_
      refine d_nil (by kernel_rfl) ?_
      repeat (first | refine then_normal ?_ | refine then_exit ?_ | refine then_ret ?_ | refine block_normal ?_ | refine block_ret ?_ | refine block_exit ?_ | refine block_pass rfl ?_)
      refine c_ret ?_
      repeat (first | refine then_normal ?_ | refine then_exit ?_ | refine then_ret ?_ | refine block_normal ?_ | refine block_ret ?_ | refine block_exit ?_ | refine block_pass rfl ?_)
      obtain rfl := Option.some.inj h
      exact end0 rfl (.tup (.cons (.refl _) (.cons (.refl _) .nil)))

theorem fc_R35_in (p0 : Int) (p1 : Int) (p2 : Int) (r : Bool) (h : m_R35_in p0 p1 p2 = some r) : FC Tryd.prog 53 [.t (.d (.lit (.int .i64 p0))), .t (.d (.lit (.int .i64 p1))), .t (.d (.lit (.int .i64 p2)))] [] (.t (.d (.lit (.bool r)))) := by
  refine fc_mk (rs := [.tmp 6]) (n := 15) Tryd.func53 rfl rfl (Nat.le_of_ble_eq_true rfl) rfl (pins := []) rfl (L := [(0, .t (.d (.lit (.int .i64 p0)))), (1, .t (.d (.lit (.int .i64 p1)))), (2, .t (.d (.lit (.int .i64 p2))))]) rfl ?_
  refine c_seq ?_
  refine c_region ?_
  refine o_s (.t (.d (.lit (.bool false)))) (g0 rfl) rfl rfl rfl ?_
  refine o_nil ?_
  repeat (first | refine then_normal ?_ | refine then_exit ?_ | refine then_ret ?_ | refine block_normal ?_ | refine block_ret ?_ | refine block_exit ?_ | refine block_pass rfl ?_)
  refine c_seq ?_
  refine c_region ?_
  refine o_s (.t (.d (.lit (.int .i64 p0)))) (g0 rfl) rfl rfl rfl ?_
  refine o_s (.t (.d (.lit (.int .i64 p1)))) (g0 rfl) rfl rfl rfl ?_
  refine o_s (.t (.d (.lit (.bool (decide (p0 ≥ p1)))))) (g0 rfl) rfl rfl rfl ?_
  refine o_s (.t (.d (.lit (.bool (decide (p0 ≥ p1)))))) (g0 rfl) rfl rfl rfl ?_
  rcases bif_some h with ⟨h1, h⟩ | ⟨h1, h⟩
  · refine o_s (.t (.d (.lit (.int .i64 p0)))) (gy rfl rfl rfl h1) rfl rfl rfl ?_
    refine o_s (.t (.d (.lit (.int .i64 p2)))) (gy rfl rfl rfl h1) rfl rfl rfl ?_
    refine o_s (.t (.d (.lit (.bool (decide (p0 ≤ p2)))))) (gy rfl rfl rfl h1) rfl rfl rfl ?_
    refine o_pk (.t (.d (.lit (.bool (decide (p0 ≤ p2)))))) (b := true) h1 (g0 rfl) rfl rfl rfl rfl rfl ?_
    refine o_s (.t (.d (.lit (.bool (decide (p0 ≤ p2)))))) (g0 rfl) rfl rfl rfl ?_
    refine o_nil ?_
    repeat (first | refine then_normal ?_ | refine then_exit ?_ | refine then_ret ?_ | refine block_normal ?_ | refine block_ret ?_ | refine block_exit ?_ | refine block_pass rfl ?_)
    refine c_ret ?_
    repeat (first | refine then_normal ?_ | refine then_exit ?_ | refine then_ret ?_ | refine block_normal ?_ | refine block_ret ?_ | refine block_exit ?_ | refine block_pass rfl ?_)
    obtain rfl := Option.some.inj h
    exact end0 rfl (.refl _)
  · refine o_skip rfl rfl rfl h1 rfl rfl ?_
    refine o_skip rfl rfl rfl h1 rfl rfl ?_
    refine o_skip rfl rfl rfl h1 rfl rfl ?_
    refine o_pk (.t (.d (.lit (.bool false)))) (b := false) h1 (g0 rfl) rfl rfl rfl rfl rfl ?_
    refine o_s (.t (.d (.lit (.bool false)))) (g0 rfl) rfl rfl rfl ?_
    refine o_nil ?_
    repeat (first | refine then_normal ?_ | refine then_exit ?_ | refine then_ret ?_ | refine block_normal ?_ | refine block_ret ?_ | refine block_exit ?_ | refine block_pass rfl ?_)
    refine c_ret ?_
    repeat (first | refine then_normal ?_ | refine then_exit ?_ | refine then_ret ?_ | refine block_normal ?_ | refine block_ret ?_ | refine block_exit ?_ | refine block_pass rfl ?_)
    obtain rfl := Option.some.inj h
    exact end0 rfl (.refl _)

theorem fc_R35_MayVersion (p0 : S_api_VersionRecord) (r : Bool) (h : m_R35_MayVersion p0 = some r) : FC Tryd.prog 21 [.t (.agg [.lit (.string ⟨⟨p0.Folder⟩⟩), .lit (.string ⟨⟨p0.Item⟩⟩), .lit (.int .i64 p0.Number), .lit (.int .i64 p0.Epoch), .lit (.int .i64 p0.Seq), .seq 1 (bytesD p0.Digest), .lit (.bool p0.Gone), .seq 1 (bytesD p0.Lock), .seq 1 (bytesD p0.Body), .lit (.string ⟨⟨p0.By⟩⟩)])] [] (.t (.d (.lit (.bool r)))) := by
  refine fc_mk (rs := [.tmp 2]) (n := 66) Tryd.func21 rfl rfl (Nat.le_of_ble_eq_true rfl) rfl (pins := []) rfl (L := [(0, .t (.agg [.lit (.string ⟨⟨p0.Folder⟩⟩), .lit (.string ⟨⟨p0.Item⟩⟩), .lit (.int .i64 p0.Number), .lit (.int .i64 p0.Epoch), .lit (.int .i64 p0.Seq), .seq 1 (bytesD p0.Digest), .lit (.bool p0.Gone), .seq 1 (bytesD p0.Lock), .seq 1 (bytesD p0.Body), .lit (.string ⟨⟨p0.By⟩⟩)]))]) rfl ?_
  refine c_seq ?_
  refine c_region ?_
  refine o_s (.box [.d (.lit (.string ⟨⟨p0.Folder⟩⟩)), .d (.lit (.string ⟨⟨p0.Item⟩⟩)), .d (.lit (.int .i64 p0.Number)), .d (.lit (.int .i64 p0.Epoch)), .d (.lit (.int .i64 p0.Seq)), .d (.seq 1 (bytesD p0.Digest)), .d (.lit (.bool p0.Gone)), .d (.seq 1 (bytesD p0.Lock)), .d (.seq 1 (bytesD p0.Body)), .d (.lit (.string ⟨⟨p0.By⟩⟩))]) (g0 rfl) rfl rfl rfl ?_
  refine o_s (.t (.d (.lit (.bool false)))) (g0 rfl) rfl rfl rfl ?_
  refine o_nil ?_
  repeat (first | refine then_normal ?_ | refine then_exit ?_ | refine then_ret ?_ | refine block_normal ?_ | refine block_ret ?_ | refine block_exit ?_ | refine block_pass rfl ?_)
  refine c_seq ?_
  refine c_seq ?_
  refine c_region ?_
  refine o_s (.ref 1 0) (g0 rfl) rfl rfl rfl ?_
  refine o_s (.t (.d (.lit (.string ⟨⟨p0.Folder⟩⟩)))) (g0 rfl) rfl rfl rfl ?_
  obtain ⟨x1, h2, h⟩ := bind_some h
  refine o_ca (fc_R25_Name _ _ h2) (g0 rfl) rfl rfl rfl rfl rfl rfl rfl (.cons (.refl _) .nil) rfl rfl ?_
  refine o_s (.t (.d (.lit (.bool (!x1))))) (g0 rfl) rfl rfl rfl ?_
  refine o_s (.t (.d (.lit (.bool (!x1))))) (g0 rfl) rfl rfl rfl ?_
  rcases bif_some h with ⟨h3, h⟩ | ⟨h3, h⟩
  · refine o_skip rfl rfl rfl h3 rfl rfl ?_
    refine o_skip rfl rfl rfl h3 rfl rfl ?_
    refine o_skip rfl rfl rfl h3 rfl rfl ?_
    refine o_skip rfl rfl rfl h3 rfl rfl ?_
    refine o_pk (.t (.d (.lit (.bool true)))) (b := true) h3 (g0 rfl) rfl rfl rfl rfl rfl ?_
    refine o_s (.t (.d (.lit (.bool true)))) (g0 rfl) rfl rfl rfl ?_
    refine o_skip rfl rfl rfl rfl rfl rfl ?_
    refine o_skip rfl rfl rfl rfl rfl rfl ?_
    refine o_skip rfl rfl rfl rfl rfl rfl ?_
    refine o_skip rfl rfl rfl rfl rfl rfl ?_
    refine o_pk (.t (.d (.lit (.bool true)))) (b := true) rfl (g0 rfl) rfl rfl rfl rfl rfl ?_
    refine o_s (.t (.d (.lit (.bool true)))) (g0 rfl) rfl rfl rfl ?_
    refine o_skip rfl rfl rfl rfl rfl rfl ?_
    refine o_skip rfl rfl rfl rfl rfl rfl ?_
    refine o_skip rfl rfl rfl rfl rfl rfl ?_
    refine o_skip rfl rfl rfl rfl rfl rfl ?_
    refine o_pk (.t (.d (.lit (.bool true)))) (b := true) rfl (g0 rfl) rfl rfl rfl rfl rfl ?_
    refine o_s (.t (.d (.lit (.bool true)))) (g0 rfl) rfl rfl rfl ?_
    refine o_skip rfl rfl rfl rfl rfl rfl ?_
    refine o_skip rfl rfl rfl rfl rfl rfl ?_
    refine o_skip rfl rfl rfl rfl rfl rfl ?_
    refine o_skip rfl rfl rfl rfl rfl rfl ?_
    refine o_pk (.t (.d (.lit (.bool true)))) (b := true) rfl (g0 rfl) rfl rfl rfl rfl rfl ?_
    refine o_s (.t (.d (.lit (.bool true)))) (g0 rfl) rfl rfl rfl ?_
    refine o_skip rfl rfl rfl rfl rfl rfl ?_
    refine o_skip rfl rfl rfl rfl rfl rfl ?_
    refine o_skip rfl rfl rfl rfl rfl rfl ?_
    refine o_skip rfl rfl rfl rfl rfl rfl ?_
    refine o_pk (.t (.d (.lit (.bool true)))) (b := true) rfl (g0 rfl) rfl rfl rfl rfl rfl ?_
    refine o_s (.t (.d (.lit (.bool true)))) (g0 rfl) rfl rfl rfl ?_
    refine o_skip rfl rfl rfl rfl rfl rfl ?_
    refine o_skip rfl rfl rfl rfl rfl rfl ?_
    refine o_skip rfl rfl rfl rfl rfl rfl ?_
    refine o_skip rfl rfl rfl rfl rfl rfl ?_
    refine o_skip rfl rfl rfl rfl rfl rfl ?_
    refine o_pk (.t (.d (.lit (.bool true)))) (b := true) rfl (g0 rfl) rfl rfl rfl rfl rfl ?_
    refine o_nil ?_
    repeat (first | refine then_normal ?_ | refine then_exit ?_ | refine then_ret ?_ | refine block_normal ?_ | refine block_ret ?_ | refine block_exit ?_ | refine block_pass rfl ?_)
    refine c_t rfl rfl ?_
    refine c_seq ?_
    refine c_region ?_
    refine o_s (.t (.d (.lit (.bool false)))) (g0 rfl) rfl rfl rfl ?_
    refine o_nil ?_
    repeat (first | refine then_normal ?_ | refine then_exit ?_ | refine then_ret ?_ | refine block_normal ?_ | refine block_ret ?_ | refine block_exit ?_ | refine block_pass rfl ?_)
    refine c_ret ?_
    repeat (first | refine then_normal ?_ | refine then_exit ?_ | refine then_ret ?_ | refine block_normal ?_ | refine block_ret ?_ | refine block_exit ?_ | refine block_pass rfl ?_)
    obtain rfl := Option.some.inj h
    exact end0 rfl (.refl _)
  · refine o_s (.ref 1 1) (gy rfl rfl rfl h3) rfl rfl rfl ?_
    refine o_s (.t (.d (.lit (.string ⟨⟨p0.Item⟩⟩)))) (gy rfl rfl rfl h3) rfl rfl rfl ?_
    obtain ⟨x4, h5, h⟩ := bind_some h
    refine o_ca (fc_R25_Name _ _ h5) (gy rfl rfl rfl h3) rfl rfl rfl rfl rfl rfl rfl (.cons (.refl _) .nil) rfl rfl ?_
    refine o_s (.t (.d (.lit (.bool (!x4))))) (gy rfl rfl rfl h3) rfl rfl rfl ?_
    refine o_pk (.t (.d (.lit (.bool (!x4))))) (b := false) h3 (g0 rfl) rfl rfl rfl rfl rfl ?_
    refine o_s (.t (.d (.lit (.bool (!x4))))) (g0 rfl) rfl rfl rfl ?_
    rcases bif_some h with ⟨h6, h⟩ | ⟨h6, h⟩
    · refine o_skip rfl rfl rfl h6 rfl rfl ?_
      refine o_skip rfl rfl rfl h6 rfl rfl ?_
      refine o_skip rfl rfl rfl h6 rfl rfl ?_
      refine o_skip rfl rfl rfl h6 rfl rfl ?_
      refine o_pk (.t (.d (.lit (.bool true)))) (b := true) h6 (g0 rfl) rfl rfl rfl rfl rfl ?_
      refine o_s (.t (.d (.lit (.bool true)))) (g0 rfl) rfl rfl rfl ?_
      refine o_skip rfl rfl rfl rfl rfl rfl ?_
      refine o_skip rfl rfl rfl rfl rfl rfl ?_
      refine o_skip rfl rfl rfl rfl rfl rfl ?_
      refine o_skip rfl rfl rfl rfl rfl rfl ?_
      refine o_pk (.t (.d (.lit (.bool true)))) (b := true) rfl (g0 rfl) rfl rfl rfl rfl rfl ?_
      refine o_s (.t (.d (.lit (.bool true)))) (g0 rfl) rfl rfl rfl ?_
      refine o_skip rfl rfl rfl rfl rfl rfl ?_
      refine o_skip rfl rfl rfl rfl rfl rfl ?_
      refine o_skip rfl rfl rfl rfl rfl rfl ?_
      refine o_skip rfl rfl rfl rfl rfl rfl ?_
      refine o_pk (.t (.d (.lit (.bool true)))) (b := true) rfl (g0 rfl) rfl rfl rfl rfl rfl ?_
      refine o_s (.t (.d (.lit (.bool true)))) (g0 rfl) rfl rfl rfl ?_
      refine o_skip rfl rfl rfl rfl rfl rfl ?_
      refine o_skip rfl rfl rfl rfl rfl rfl ?_
      refine o_skip rfl rfl rfl rfl rfl rfl ?_
      refine o_skip rfl rfl rfl rfl rfl rfl ?_
      refine o_pk (.t (.d (.lit (.bool true)))) (b := true) rfl (g0 rfl) rfl rfl rfl rfl rfl ?_
      refine o_s (.t (.d (.lit (.bool true)))) (g0 rfl) rfl rfl rfl ?_
      refine o_skip rfl rfl rfl rfl rfl rfl ?_
      refine o_skip rfl rfl rfl rfl rfl rfl ?_
      refine o_skip rfl rfl rfl rfl rfl rfl ?_
      refine o_skip rfl rfl rfl rfl rfl rfl ?_
      refine o_skip rfl rfl rfl rfl rfl rfl ?_
      refine o_pk (.t (.d (.lit (.bool true)))) (b := true) rfl (g0 rfl) rfl rfl rfl rfl rfl ?_
      refine o_nil ?_
      repeat (first | refine then_normal ?_ | refine then_exit ?_ | refine then_ret ?_ | refine block_normal ?_ | refine block_ret ?_ | refine block_exit ?_ | refine block_pass rfl ?_)
      refine c_t rfl rfl ?_
      refine c_seq ?_
      refine c_region ?_
      refine o_s (.t (.d (.lit (.bool false)))) (g0 rfl) rfl rfl rfl ?_
      refine o_nil ?_
      repeat (first | refine then_normal ?_ | refine then_exit ?_ | refine then_ret ?_ | refine block_normal ?_ | refine block_ret ?_ | refine block_exit ?_ | refine block_pass rfl ?_)
      refine c_ret ?_
      repeat (first | refine then_normal ?_ | refine then_exit ?_ | refine then_ret ?_ | refine block_normal ?_ | refine block_ret ?_ | refine block_exit ?_ | refine block_pass rfl ?_)
      obtain rfl := Option.some.inj h
      exact end0 rfl (.refl _)
    · refine o_s (.ref 1 9) (gy rfl rfl rfl h6) rfl rfl rfl ?_
      refine o_s (.t (.d (.lit (.string ⟨⟨p0.By⟩⟩)))) (gy rfl rfl rfl h6) rfl rfl rfl ?_
      obtain ⟨x7, h8, h⟩ := bind_some h
      refine o_ca (fc_R25_Name _ _ h8) (gy rfl rfl rfl h6) rfl rfl rfl rfl rfl rfl rfl (.cons (.refl _) .nil) rfl rfl ?_
      refine o_s (.t (.d (.lit (.bool (!x7))))) (gy rfl rfl rfl h6) rfl rfl rfl ?_
      refine o_pk (.t (.d (.lit (.bool (!x7))))) (b := false) h6 (g0 rfl) rfl rfl rfl rfl rfl ?_
      refine o_s (.t (.d (.lit (.bool (!x7))))) (g0 rfl) rfl rfl rfl ?_
      rcases bif_some h with ⟨h9, h⟩ | ⟨h9, h⟩
      · refine o_skip rfl rfl rfl h9 rfl rfl ?_
        refine o_skip rfl rfl rfl h9 rfl rfl ?_
        refine o_skip rfl rfl rfl h9 rfl rfl ?_
        refine o_skip rfl rfl rfl h9 rfl rfl ?_
        refine o_pk (.t (.d (.lit (.bool true)))) (b := true) h9 (g0 rfl) rfl rfl rfl rfl rfl ?_
        refine o_s (.t (.d (.lit (.bool true)))) (g0 rfl) rfl rfl rfl ?_
        refine o_skip rfl rfl rfl rfl rfl rfl ?_
        refine o_skip rfl rfl rfl rfl rfl rfl ?_
        refine o_skip rfl rfl rfl rfl rfl rfl ?_
        refine o_skip rfl rfl rfl rfl rfl rfl ?_
        refine o_pk (.t (.d (.lit (.bool true)))) (b := true) rfl (g0 rfl) rfl rfl rfl rfl rfl ?_
        refine o_s (.t (.d (.lit (.bool true)))) (g0 rfl) rfl rfl rfl ?_
        refine o_skip rfl rfl rfl rfl rfl rfl ?_
        refine o_skip rfl rfl rfl rfl rfl rfl ?_
        refine o_skip rfl rfl rfl rfl rfl rfl ?_
        refine o_skip rfl rfl rfl rfl rfl rfl ?_
        refine o_pk (.t (.d (.lit (.bool true)))) (b := true) rfl (g0 rfl) rfl rfl rfl rfl rfl ?_
        refine o_s (.t (.d (.lit (.bool true)))) (g0 rfl) rfl rfl rfl ?_
        refine o_skip rfl rfl rfl rfl rfl rfl ?_
        refine o_skip rfl rfl rfl rfl rfl rfl ?_
        refine o_skip rfl rfl rfl rfl rfl rfl ?_
        refine o_skip rfl rfl rfl rfl rfl rfl ?_
        refine o_skip rfl rfl rfl rfl rfl rfl ?_
        refine o_pk (.t (.d (.lit (.bool true)))) (b := true) rfl (g0 rfl) rfl rfl rfl rfl rfl ?_
        refine o_nil ?_
        repeat (first | refine then_normal ?_ | refine then_exit ?_ | refine then_ret ?_ | refine block_normal ?_ | refine block_ret ?_ | refine block_exit ?_ | refine block_pass rfl ?_)
        refine c_t rfl rfl ?_
        refine c_seq ?_
        refine c_region ?_
        refine o_s (.t (.d (.lit (.bool false)))) (g0 rfl) rfl rfl rfl ?_
        refine o_nil ?_
        repeat (first | refine then_normal ?_ | refine then_exit ?_ | refine then_ret ?_ | refine block_normal ?_ | refine block_ret ?_ | refine block_exit ?_ | refine block_pass rfl ?_)
        refine c_ret ?_
        repeat (first | refine then_normal ?_ | refine then_exit ?_ | refine then_ret ?_ | refine block_normal ?_ | refine block_ret ?_ | refine block_exit ?_ | refine block_pass rfl ?_)
        obtain rfl := Option.some.inj h
        exact end0 rfl (.refl _)
      · refine o_s (.ref 1 2) (gy rfl rfl rfl h9) rfl rfl rfl ?_
        refine o_s (.t (.d (.lit (.int .i64 p0.Number)))) (gy rfl rfl rfl h9) rfl rfl rfl ?_
        obtain ⟨x10, h11, h⟩ := bind_some h
        refine o_ca (fc_R35_in _ _ _ _ h11) (gy rfl rfl rfl h9) rfl rfl rfl rfl rfl rfl rfl (.cons (.refl _) (.cons (.refl _) (.cons (.refl _) .nil))) rfl rfl ?_
        refine o_s (.t (.d (.lit (.bool (!x10))))) (gy rfl rfl rfl h9) rfl rfl rfl ?_
        refine o_pk (.t (.d (.lit (.bool (!x10))))) (b := false) h9 (g0 rfl) rfl rfl rfl rfl rfl ?_
        refine o_s (.t (.d (.lit (.bool (!x10))))) (g0 rfl) rfl rfl rfl ?_
        rcases bif_some h with ⟨h12, h⟩ | ⟨h12, h⟩
        · refine o_skip rfl rfl rfl h12 rfl rfl ?_
          refine o_skip rfl rfl rfl h12 rfl rfl ?_
          refine o_skip rfl rfl rfl h12 rfl rfl ?_
          refine o_skip rfl rfl rfl h12 rfl rfl ?_
          refine o_pk (.t (.d (.lit (.bool true)))) (b := true) h12 (g0 rfl) rfl rfl rfl rfl rfl ?_
          refine o_s (.t (.d (.lit (.bool true)))) (g0 rfl) rfl rfl rfl ?_
          refine o_skip rfl rfl rfl rfl rfl rfl ?_
          refine o_skip rfl rfl rfl rfl rfl rfl ?_
          refine o_skip rfl rfl rfl rfl rfl rfl ?_
          refine o_skip rfl rfl rfl rfl rfl rfl ?_
          refine o_pk (.t (.d (.lit (.bool true)))) (b := true) rfl (g0 rfl) rfl rfl rfl rfl rfl ?_
          refine o_s (.t (.d (.lit (.bool true)))) (g0 rfl) rfl rfl rfl ?_
          refine o_skip rfl rfl rfl rfl rfl rfl ?_
          refine o_skip rfl rfl rfl rfl rfl rfl ?_
          refine o_skip rfl rfl rfl rfl rfl rfl ?_
          refine o_skip rfl rfl rfl rfl rfl rfl ?_
          refine o_skip rfl rfl rfl rfl rfl rfl ?_
          refine o_pk (.t (.d (.lit (.bool true)))) (b := true) rfl (g0 rfl) rfl rfl rfl rfl rfl ?_
          refine o_nil ?_
          repeat (first | refine then_normal ?_ | refine then_exit ?_ | refine then_ret ?_ | refine block_normal ?_ | refine block_ret ?_ | refine block_exit ?_ | refine block_pass rfl ?_)
          refine c_t rfl rfl ?_
          refine c_seq ?_
          refine c_region ?_
          refine o_s (.t (.d (.lit (.bool false)))) (g0 rfl) rfl rfl rfl ?_
          refine o_nil ?_
          repeat (first | refine then_normal ?_ | refine then_exit ?_ | refine then_ret ?_ | refine block_normal ?_ | refine block_ret ?_ | refine block_exit ?_ | refine block_pass rfl ?_)
          refine c_ret ?_
          repeat (first | refine then_normal ?_ | refine then_exit ?_ | refine then_ret ?_ | refine block_normal ?_ | refine block_ret ?_ | refine block_exit ?_ | refine block_pass rfl ?_)
          obtain rfl := Option.some.inj h
          exact end0 rfl (.refl _)
        · refine o_s (.ref 1 3) (gy rfl rfl rfl h12) rfl rfl rfl ?_
          refine o_s (.t (.d (.lit (.int .i64 p0.Epoch)))) (gy rfl rfl rfl h12) rfl rfl rfl ?_
          obtain ⟨x13, h14, h⟩ := bind_some h
          refine o_ca (fc_R35_in _ _ _ _ h14) (gy rfl rfl rfl h12) rfl rfl rfl rfl rfl rfl rfl (.cons (.refl _) (.cons (.refl _) (.cons (.refl _) .nil))) rfl rfl ?_
          refine o_s (.t (.d (.lit (.bool (!x13))))) (gy rfl rfl rfl h12) rfl rfl rfl ?_
          refine o_pk (.t (.d (.lit (.bool (!x13))))) (b := false) h12 (g0 rfl) rfl rfl rfl rfl rfl ?_
          refine o_s (.t (.d (.lit (.bool (!x13))))) (g0 rfl) rfl rfl rfl ?_
          rcases bif_some h with ⟨h15, h⟩ | ⟨h15, h⟩
          · refine o_skip rfl rfl rfl h15 rfl rfl ?_
            refine o_skip rfl rfl rfl h15 rfl rfl ?_
            refine o_skip rfl rfl rfl h15 rfl rfl ?_
            refine o_skip rfl rfl rfl h15 rfl rfl ?_
            refine o_pk (.t (.d (.lit (.bool true)))) (b := true) h15 (g0 rfl) rfl rfl rfl rfl rfl ?_
            refine o_s (.t (.d (.lit (.bool true)))) (g0 rfl) rfl rfl rfl ?_
            refine o_skip rfl rfl rfl rfl rfl rfl ?_
            refine o_skip rfl rfl rfl rfl rfl rfl ?_
            refine o_skip rfl rfl rfl rfl rfl rfl ?_
            refine o_skip rfl rfl rfl rfl rfl rfl ?_
            refine o_skip rfl rfl rfl rfl rfl rfl ?_
            refine o_pk (.t (.d (.lit (.bool true)))) (b := true) rfl (g0 rfl) rfl rfl rfl rfl rfl ?_
            refine o_nil ?_
            repeat (first | refine then_normal ?_ | refine then_exit ?_ | refine then_ret ?_ | refine block_normal ?_ | refine block_ret ?_ | refine block_exit ?_ | refine block_pass rfl ?_)
            refine c_t rfl rfl ?_
            refine c_seq ?_
            refine c_region ?_
            refine o_s (.t (.d (.lit (.bool false)))) (g0 rfl) rfl rfl rfl ?_
            refine o_nil ?_
            repeat (first | refine then_normal ?_ | refine then_exit ?_ | refine then_ret ?_ | refine block_normal ?_ | refine block_ret ?_ | refine block_exit ?_ | refine block_pass rfl ?_)
            refine c_ret ?_
            repeat (first | refine then_normal ?_ | refine then_exit ?_ | refine then_ret ?_ | refine block_normal ?_ | refine block_ret ?_ | refine block_exit ?_ | refine block_pass rfl ?_)
            obtain rfl := Option.some.inj h
            exact end0 rfl (.refl _)
          · refine o_s (.ref 1 4) (gy rfl rfl rfl h15) rfl rfl rfl ?_
            refine o_s (.t (.d (.lit (.int .i64 p0.Seq)))) (gy rfl rfl rfl h15) rfl rfl rfl ?_
            obtain ⟨x16, h17, h⟩ := bind_some h
            refine o_ca (fc_R35_in _ _ _ _ h17) (gy rfl rfl rfl h15) rfl rfl rfl rfl rfl rfl rfl (.cons (.refl _) (.cons (.refl _) (.cons (.refl _) .nil))) rfl rfl ?_
            refine o_s (.t (.d (.lit (.bool (!x16))))) (gy rfl rfl rfl h15) rfl rfl rfl ?_
            refine o_pk (.t (.d (.lit (.bool (!x16))))) (b := false) h15 (g0 rfl) rfl rfl rfl rfl rfl ?_
            refine o_s (.t (.d (.lit (.bool (!x16))))) (g0 rfl) rfl rfl rfl ?_
            rcases bif_some h with ⟨h18, h⟩ | ⟨h18, h⟩
            · refine o_skip rfl rfl rfl h18 rfl rfl ?_
              refine o_skip rfl rfl rfl h18 rfl rfl ?_
              refine o_skip rfl rfl rfl h18 rfl rfl ?_
              refine o_skip rfl rfl rfl h18 rfl rfl ?_
              refine o_skip rfl rfl rfl h18 rfl rfl ?_
              refine o_pk (.t (.d (.lit (.bool true)))) (b := true) h18 (g0 rfl) rfl rfl rfl rfl rfl ?_
              refine o_nil ?_
              repeat (first | refine then_normal ?_ | refine then_exit ?_ | refine then_ret ?_ | refine block_normal ?_ | refine block_ret ?_ | refine block_exit ?_ | refine block_pass rfl ?_)
              refine c_t rfl rfl ?_
              refine c_seq ?_
              refine c_region ?_
              refine o_s (.t (.d (.lit (.bool false)))) (g0 rfl) rfl rfl rfl ?_
              refine o_nil ?_
              repeat (first | refine then_normal ?_ | refine then_exit ?_ | refine then_ret ?_ | refine block_normal ?_ | refine block_ret ?_ | refine block_exit ?_ | refine block_pass rfl ?_)
              refine c_ret ?_
              repeat (first | refine then_normal ?_ | refine then_exit ?_ | refine then_ret ?_ | refine block_normal ?_ | refine block_ret ?_ | refine block_exit ?_ | refine block_pass rfl ?_)
              obtain rfl := Option.some.inj h
              exact end0 rfl (.refl _)
            · refine o_s (.ref 1 5) (gy rfl rfl rfl h18) rfl rfl rfl ?_
              refine o_s (.t (.d (.seq 1 (bytesD p0.Digest)))) (gy rfl rfl rfl h18) rfl rfl rfl ?_
              refine o_c (gy rfl rfl rfl h18) rfl rfl rfl (lenE _ _) trivial ?_
              obtain ⟨x19, h20, h⟩ := bind_some h
              refine o_ca (fc_R35_in _ _ _ _ h20) (gy rfl rfl rfl h18) rfl rfl rfl rfl rfl rfl rfl (.cons (.refl _) (.cons (.refl _) (.cons (.refl _) .nil))) rfl rfl ?_
              refine o_s (.t (.d (.lit (.bool (!x19))))) (gy rfl rfl rfl h18) rfl rfl rfl ?_
              refine o_pk (.t (.d (.lit (.bool (!x19))))) (b := false) h18 (g0 rfl) rfl rfl rfl rfl rfl ?_
              refine o_nil ?_
              repeat (first | refine then_normal ?_ | refine then_exit ?_ | refine then_ret ?_ | refine block_normal ?_ | refine block_ret ?_ | refine block_exit ?_ | refine block_pass rfl ?_)
              rcases bif_some h with ⟨h21, h⟩ | ⟨h21, h⟩
              · refine c_t h21 rfl ?_
                refine c_seq ?_
                refine c_region ?_
                refine o_s (.t (.d (.lit (.bool false)))) (g0 rfl) rfl rfl rfl ?_
                refine o_nil ?_
                repeat (first | refine then_normal ?_ | refine then_exit ?_ | refine then_ret ?_ | refine block_normal ?_ | refine block_ret ?_ | refine block_exit ?_ | refine block_pass rfl ?_)
                refine c_ret ?_
                repeat (first | refine then_normal ?_ | refine then_exit ?_ | refine then_ret ?_ | refine block_normal ?_ | refine block_ret ?_ | refine block_exit ?_ | refine block_pass rfl ?_)
                obtain rfl := Option.some.inj h
                exact end0 rfl (.refl _)
              · refine c_f h21 rfl ?_
                refine c_skip ?_
                repeat (first | refine then_normal ?_ | refine then_exit ?_ | refine then_ret ?_ | refine block_normal ?_ | refine block_ret ?_ | refine block_exit ?_ | refine block_pass rfl ?_)
                refine c_seq ?_
                refine c_seq ?_
                refine c_region ?_
                refine o_s (.ref 1 6) (g0 rfl) rfl rfl rfl ?_
                refine o_s (.t (.d (.lit (.bool p0.Gone)))) (g0 rfl) rfl rfl rfl ?_
                refine o_nil ?_
                repeat (first | refine then_normal ?_ | refine then_exit ?_ | refine then_ret ?_ | refine block_normal ?_ | refine block_ret ?_ | refine block_exit ?_ | refine block_pass rfl ?_)
                rcases bif_some h with ⟨h22, h⟩ | ⟨h22, h⟩
                · refine c_t h22 rfl ?_
                  refine c_seq ?_
                  refine c_region ?_
                  refine o_s (.ref 1 7) (g0 rfl) rfl rfl rfl ?_
                  refine o_s (.t (.d (.seq 1 (bytesD p0.Lock)))) (g0 rfl) rfl rfl rfl ?_
                  refine o_c (g0 rfl) rfl rfl rfl (lenE _ _) trivial ?_
                  refine o_s (.t (.d (.lit (.bool ((p0.Lock.length : Int) == 0))))) (g0 rfl) rfl rfl rfl ?_
                  refine o_s (.t (.d (.lit (.bool ((p0.Lock.length : Int) == 0))))) (g0 rfl) rfl rfl rfl ?_
                  rcases bif_some h with ⟨h23, h⟩ | ⟨h23, h⟩
                  · refine o_s (.ref 1 8) (gy rfl rfl rfl h23) rfl rfl rfl ?_
                    refine o_s (.t (.d (.seq 1 (bytesD p0.Body)))) (gy rfl rfl rfl h23) rfl rfl rfl ?_
                    refine o_c (gy rfl rfl rfl h23) rfl rfl rfl (lenE _ _) trivial ?_
                    refine o_s (.t (.d (.lit (.bool ((p0.Body.length : Int) == 0))))) (gy rfl rfl rfl h23) rfl rfl rfl ?_
                    refine o_pk (.t (.d (.lit (.bool ((p0.Body.length : Int) == 0))))) (b := true) h23 (g0 rfl) rfl rfl rfl rfl rfl ?_
                    refine o_s (.t (.d (.lit (.bool ((p0.Body.length : Int) == 0))))) (g0 rfl) rfl rfl rfl ?_
                    refine o_nil ?_
                    repeat (first | refine then_normal ?_ | refine then_exit ?_ | refine then_ret ?_ | refine block_normal ?_ | refine block_ret ?_ | refine block_exit ?_ | refine block_pass rfl ?_)
                    refine c_ret ?_
                    repeat (first | refine then_normal ?_ | refine then_exit ?_ | refine then_ret ?_ | refine block_normal ?_ | refine block_ret ?_ | refine block_exit ?_ | refine block_pass rfl ?_)
                    obtain rfl := Option.some.inj h
                    exact end0 rfl (.refl _)
                  · refine o_skip rfl rfl rfl h23 rfl rfl ?_
                    refine o_skip rfl rfl rfl h23 rfl rfl ?_
                    refine o_skip rfl rfl rfl h23 rfl rfl ?_
                    refine o_skip rfl rfl rfl h23 rfl rfl ?_
                    refine o_pk (.t (.d (.lit (.bool false)))) (b := false) h23 (g0 rfl) rfl rfl rfl rfl rfl ?_
                    refine o_s (.t (.d (.lit (.bool false)))) (g0 rfl) rfl rfl rfl ?_
                    refine o_nil ?_
                    repeat (first | refine then_normal ?_ | refine then_exit ?_ | refine then_ret ?_ | refine block_normal ?_ | refine block_ret ?_ | refine block_exit ?_ | refine block_pass rfl ?_)
                    refine c_ret ?_
                    repeat (first | refine then_normal ?_ | refine then_exit ?_ | refine then_ret ?_ | refine block_normal ?_ | refine block_ret ?_ | refine block_exit ?_ | refine block_pass rfl ?_)
                    obtain rfl := Option.some.inj h
                    exact end0 rfl (.refl _)
                · refine c_f h22 rfl ?_
                  refine c_skip ?_
                  repeat (first | refine then_normal ?_ | refine then_exit ?_ | refine then_ret ?_ | refine block_normal ?_ | refine block_ret ?_ | refine block_exit ?_ | refine block_pass rfl ?_)
                  refine c_seq ?_
                  refine c_region ?_
                  refine o_s (.ref 1 7) (g0 rfl) rfl rfl rfl ?_
                  refine o_s (.t (.d (.seq 1 (bytesD p0.Lock)))) (g0 rfl) rfl rfl rfl ?_
                  refine o_c (g0 rfl) rfl rfl rfl (lenE _ _) trivial ?_
                  obtain ⟨x24, h25, h⟩ := bind_some h
                  refine o_ca (fc_R35_in _ _ _ _ h25) (g0 rfl) rfl rfl rfl rfl rfl rfl rfl (.cons (.refl _) (.cons (.refl _) (.cons (.refl _) .nil))) rfl rfl ?_
                  refine o_s (.t (.d (.lit (.bool x24)))) (g0 rfl) rfl rfl rfl ?_
                  rcases bif_some h with ⟨h26, h⟩ | ⟨h26, h⟩
                  · refine o_s (.ref 1 8) (gy rfl rfl rfl h26) rfl rfl rfl ?_
                    refine o_s (.t (.d (.seq 1 (bytesD p0.Body)))) (gy rfl rfl rfl h26) rfl rfl rfl ?_
                    refine o_c (gy rfl rfl rfl h26) rfl rfl rfl (lenE _ _) trivial ?_
                    obtain ⟨x27, h28, h⟩ := bind_some h
                    refine o_ca (fc_R35_in _ _ _ _ h28) (gy rfl rfl rfl h26) rfl rfl rfl rfl rfl rfl rfl (.cons (.refl _) (.cons (.refl _) (.cons (.refl _) .nil))) rfl rfl ?_
                    refine o_pk (.t (.d (.lit (.bool x27)))) (b := true) h26 (g0 rfl) rfl rfl rfl rfl rfl ?_
                    refine o_s (.t (.d (.lit (.bool x27)))) (g0 rfl) rfl rfl rfl ?_
                    refine o_nil ?_
                    repeat (first | refine then_normal ?_ | refine then_exit ?_ | refine then_ret ?_ | refine block_normal ?_ | refine block_ret ?_ | refine block_exit ?_ | refine block_pass rfl ?_)
                    refine c_ret ?_
                    repeat (first | refine then_normal ?_ | refine then_exit ?_ | refine then_ret ?_ | refine block_normal ?_ | refine block_ret ?_ | refine block_exit ?_ | refine block_pass rfl ?_)
                    obtain rfl := Option.some.inj h
                    exact end0 rfl (.refl _)
                  · refine o_skip rfl rfl rfl h26 rfl rfl ?_
                    refine o_skip rfl rfl rfl h26 rfl rfl ?_
                    refine o_skip rfl rfl rfl h26 rfl rfl ?_
                    refine o_skip rfl rfl rfl h26 rfl rfl ?_
                    refine o_pk (.t (.d (.lit (.bool false)))) (b := false) h26 (g0 rfl) rfl rfl rfl rfl rfl ?_
                    refine o_s (.t (.d (.lit (.bool false)))) (g0 rfl) rfl rfl rfl ?_
                    refine o_nil ?_
                    repeat (first | refine then_normal ?_ | refine then_exit ?_ | refine then_ret ?_ | refine block_normal ?_ | refine block_ret ?_ | refine block_exit ?_ | refine block_pass rfl ?_)
                    refine c_ret ?_
                    repeat (first | refine then_normal ?_ | refine then_exit ?_ | refine then_ret ?_ | refine block_normal ?_ | refine block_ret ?_ | refine block_exit ?_ | refine block_pass rfl ?_)
                    obtain rfl := Option.some.inj h
                    exact end0 rfl (.refl _)

theorem fc_record_ReadVersion (p0 : (List UInt8)) (r : (S_api_VersionRecord × Int)) (h : m_record_ReadVersion p0 = some r) : FC Tryd.prog 22 [.t (.d (.seq 1 (bytesD p0)))] [] (.tup [.agg [.lit (.string ⟨⟨r.1.Folder⟩⟩), .lit (.string ⟨⟨r.1.Item⟩⟩), .lit (.int .i64 r.1.Number), .lit (.int .i64 r.1.Epoch), .lit (.int .i64 r.1.Seq), .seq 1 (bytesD r.1.Digest), .lit (.bool r.1.Gone), .seq 1 (bytesD r.1.Lock), .seq 1 (bytesD r.1.Body), .lit (.string ⟨⟨r.1.By⟩⟩)], .d (.lit (.int .i64 r.2))]) := by
  refine fc_mk (rs := [.cell 2 46, .tmp 3]) (n := 92) Tryd.func22 rfl rfl (Nat.le_of_ble_eq_true rfl) rfl (pins := []) rfl (L := [(0, .t (.d (.seq 1 (bytesD p0))))]) rfl ?_
  refine c_seq ?_
  refine c_region ?_
  refine o_s (.box [.d (.lit (.string ⟨⟨[]⟩⟩)), .d (.lit (.string ⟨⟨[]⟩⟩)), .d (.lit (.int .i64 0)), .d (.lit (.int .i64 0)), .d (.lit (.int .i64 0)), .d (.lit (.slice none 0 0)), .d (.lit (.bool false)), .d (.lit (.slice none 0 0)), .d (.lit (.slice none 0 0)), .d (.lit (.string ⟨⟨[]⟩⟩))]) (g0 rfl) rfl rfl rfl ?_
  refine o_s (.t (.d (.lit (.int .i64 0)))) (g0 rfl) rfl rfl rfl ?_
  refine o_nil ?_
  repeat (first | refine then_normal ?_ | refine then_exit ?_ | refine then_ret ?_ | refine block_normal ?_ | refine block_ret ?_ | refine block_exit ?_ | refine block_pass rfl ?_)
  refine c_seq ?_
  refine c_region ?_
  refine o_s (.t (.d (.seq 1 (bytesD p0)))) (g0 rfl) rfl rfl rfl ?_
  obtain ⟨x1, h2, h⟩ := bind_some h
  refine o_ca (fc_codec_Decode _ _ h2) (g0 rfl) rfl rfl rfl rfl rfl rfl rfl (.cons (.refl _) .nil) rfl rfl ?_
  refine o_s (.tup [.agg [.lit (.int .i64 x1.1.k), .lit (.int .i64 x1.1.n), .seq 1 (bytesD x1.1.b), .seq 4 (List.map V.cells x1.1.l)], .d (.lit (.int .i64 x1.2))]) (g0 rfl) rfl rfl rfl ?_
  refine o_s (.t (.agg [.lit (.int .i64 x1.1.k), .lit (.int .i64 x1.1.n), .seq 1 (bytesD x1.1.b), .seq 4 (List.map V.cells x1.1.l)])) (g0 rfl) rfl rfl rfl ?_
  refine o_s (.t (.d (.lit (.int .i64 x1.2)))) (g0 rfl) rfl rfl rfl ?_
  refine o_s (.box [.d (.lit (.int .i64 0)), .d (.lit (.int .i64 0)), .d (.lit (.slice none 0 0)), .d (.lit (.slice none 0 0))]) (g0 rfl) rfl rfl rfl ?_
  refine o_st (.box [.d (.lit (.int .i64 x1.1.k)), .d (.lit (.int .i64 x1.1.n)), .d (.seq 1 (bytesD x1.1.b)), .d (.seq 4 (List.map V.cells x1.1.l))]) (g0 rfl) rfl rfl rfl ?_
  refine o_s (.t (.d (.lit (.int .i64 x1.2)))) (g0 rfl) rfl rfl rfl ?_
  refine o_nil ?_
  repeat (first | refine then_normal ?_ | refine then_exit ?_ | refine then_ret ?_ | refine block_normal ?_ | refine block_ret ?_ | refine block_exit ?_ | refine block_pass rfl ?_)
  refine c_seq ?_
  refine c_seq ?_
  refine c_region ?_
  refine o_s (.t (.d (.lit (.int .i64 x1.2)))) (g0 rfl) rfl rfl rfl ?_
  refine o_s (.t (.d (.lit (.bool (x1.2 != 0))))) (g0 rfl) rfl rfl rfl ?_
  refine o_nil ?_
  repeat (first | refine then_normal ?_ | refine then_exit ?_ | refine then_ret ?_ | refine block_normal ?_ | refine block_ret ?_ | refine block_exit ?_ | refine block_pass rfl ?_)
  rcases bif_some h with ⟨h3, h⟩ | ⟨h3, h⟩
  · refine c_t h3 rfl ?_
    refine c_seq ?_
    refine c_region ?_
    refine o_s (.t (.agg [.lit (.string ⟨⟨[]⟩⟩), .lit (.string ⟨⟨[]⟩⟩), .lit (.int .i64 0), .lit (.int .i64 0), .lit (.int .i64 0), .lit (.slice none 0 0), .lit (.bool false), .lit (.slice none 0 0), .lit (.slice none 0 0), .lit (.string ⟨⟨[]⟩⟩)])) (g0 rfl) rfl rfl (by kernel_rfl) ?_
    refine o_s (.t (.d (.lit (.int .i64 x1.2)))) (g0 rfl) rfl rfl rfl ?_
    refine o_st (.box [.d (.lit (.string ⟨⟨[]⟩⟩)), .d (.lit (.string ⟨⟨[]⟩⟩)), .d (.lit (.int .i64 0)), .d (.lit (.int .i64 0)), .d (.lit (.int .i64 0)), .d (.lit (.slice none 0 0)), .d (.lit (.bool false)), .d (.lit (.slice none 0 0)), .d (.lit (.slice none 0 0)), .d (.lit (.string ⟨⟨[]⟩⟩))]) (g0 rfl) rfl rfl rfl ?_
    refine o_s (.t (.d (.lit (.int .i64 x1.2)))) (g0 rfl) rfl rfl rfl ?_
    refine o_nil ?_
    repeat (first | refine then_normal ?_ | refine then_exit ?_ | refine then_ret ?_ | refine block_normal ?_ | refine block_ret ?_ | refine block_exit ?_ | refine block_pass rfl ?_)
    refine c_ret ?_
    repeat (first | refine then_normal ?_ | refine then_exit ?_ | refine then_ret ?_ | refine block_normal ?_ | refine block_ret ?_ | refine block_exit ?_ | refine block_pass rfl ?_)
    obtain rfl := Option.some.inj h
    exact end0 rfl (.tup (.cons (.agg (.cons (.refl _) (.cons (.refl _) (.cons (.refl _) (.cons (.refl _) (.cons (.refl _) (.cons (.nil _) (.cons (.refl _) (.cons (.nil _) (.cons (.nil _) (.cons (.refl _) .nil))))))))))) (.cons (.refl _) .nil)))
  · refine c_f h3 rfl ?_
    refine c_skip ?_
    repeat (first | refine then_normal ?_ | refine then_exit ?_ | refine then_ret ?_ | refine block_normal ?_ | refine block_ret ?_ | refine block_exit ?_ | refine block_pass rfl ?_)
    refine c_seq ?_
    refine c_region ?_
    refine o_s (.t (.agg [.lit (.int .i64 x1.1.k), .lit (.int .i64 x1.1.n), .seq 1 (bytesD x1.1.b), .seq 4 (List.map V.cells x1.1.l)])) (g0 rfl) rfl rfl rfl ?_
    refine o_s (.t (.own 3 1 (List.map cI64 [2, 2, 2, 1, 1, 1, 2, 1, 2, 2, 2]))) (g0 rfl) rfl rfl rfl ?_
    obtain ⟨x4, h5, h⟩ := bind_some h
    refine o_ca (fc_codec_Fields _ _ _ h5) (g0 rfl) rfl rfl rfl rfl rfl rfl rfl (.cons (.refl _) (.cons (.refl _) .nil)) rfl rfl ?_
    refine o_s (.tup [.d (.seq 4 (List.map V.cells x4.1)), .d (.lit (.bool x4.2))]) (g0 rfl) rfl rfl rfl ?_
    refine o_s (.t (.d (.seq 4 (List.map V.cells x4.1)))) (g0 rfl) rfl rfl rfl ?_
    refine o_s (.t (.d (.lit (.bool x4.2)))) (g0 rfl) rfl rfl rfl ?_
    refine o_s (.t (.d (.seq 4 (List.map V.cells x4.1)))) (g0 rfl) rfl rfl rfl ?_
    refine o_s (.t (.d (.lit (.bool x4.2)))) (g0 rfl) rfl rfl rfl ?_
    refine o_nil ?_
    repeat (first | refine then_normal ?_ | refine then_exit ?_ | refine then_ret ?_ | refine block_normal ?_ | refine block_ret ?_ | refine block_exit ?_ | refine block_pass rfl ?_)
    refine c_seq ?_
    refine c_seq ?_
    refine c_region ?_
    refine o_s (.t (.d (.lit (.bool x4.2)))) (g0 rfl) rfl rfl rfl ?_
    refine o_s (.t (.d (.lit (.bool (!x4.2))))) (g0 rfl) rfl rfl rfl ?_
    refine o_s (.t (.d (.lit (.bool (!x4.2))))) (g0 rfl) rfl rfl rfl ?_
    rcases bif_some h with ⟨h6, h⟩ | ⟨h6, h⟩
    · refine o_skip rfl rfl rfl h6 rfl rfl ?_
      refine o_skip rfl rfl rfl h6 rfl rfl ?_
      refine o_skip rfl rfl rfl h6 rfl rfl ?_
      refine o_skip rfl rfl rfl h6 rfl rfl ?_
      refine o_skip rfl rfl rfl h6 rfl rfl ?_
      refine o_skip rfl rfl rfl h6 rfl rfl ?_
      refine o_pk (.t (.d (.lit (.bool true)))) (b := true) h6 (g0 rfl) rfl rfl rfl rfl rfl ?_
      refine o_s (.t (.d (.lit (.bool true)))) (g0 rfl) rfl rfl rfl ?_
      refine o_skip rfl rfl rfl rfl rfl rfl ?_
      refine o_skip rfl rfl rfl rfl rfl rfl ?_
      refine o_skip rfl rfl rfl rfl rfl rfl ?_
      refine o_skip rfl rfl rfl rfl rfl rfl ?_
      refine o_skip rfl rfl rfl rfl rfl rfl ?_
      refine o_pk (.t (.d (.lit (.bool true)))) (b := true) rfl (g0 rfl) rfl rfl rfl rfl rfl ?_
      refine o_nil ?_
      repeat (first | refine then_normal ?_ | refine then_exit ?_ | refine then_ret ?_ | refine block_normal ?_ | refine block_ret ?_ | refine block_exit ?_ | refine block_pass rfl ?_)
      refine c_t rfl rfl ?_
      refine c_seq ?_
      refine c_region ?_
      refine o_s (.t (.agg [.lit (.string ⟨⟨[]⟩⟩), .lit (.string ⟨⟨[]⟩⟩), .lit (.int .i64 0), .lit (.int .i64 0), .lit (.int .i64 0), .lit (.slice none 0 0), .lit (.bool false), .lit (.slice none 0 0), .lit (.slice none 0 0), .lit (.string ⟨⟨[]⟩⟩)])) (g0 rfl) rfl rfl (by kernel_rfl) ?_
      refine o_st (.box [.d (.lit (.string ⟨⟨[]⟩⟩)), .d (.lit (.string ⟨⟨[]⟩⟩)), .d (.lit (.int .i64 0)), .d (.lit (.int .i64 0)), .d (.lit (.int .i64 0)), .d (.lit (.slice none 0 0)), .d (.lit (.bool false)), .d (.lit (.slice none 0 0)), .d (.lit (.slice none 0 0)), .d (.lit (.string ⟨⟨[]⟩⟩))]) (g0 rfl) rfl rfl rfl ?_
      refine o_s (.t (.d (.lit (.int .i64 11)))) (g0 rfl) rfl rfl rfl ?_
      refine o_nil ?_
      repeat (first | refine then_normal ?_ | refine then_exit ?_ | refine then_ret ?_ | refine block_normal ?_ | refine block_ret ?_ | refine block_exit ?_ | refine block_pass rfl ?_)
      refine c_ret ?_
      repeat (first | refine then_normal ?_ | refine then_exit ?_ | refine then_ret ?_ | refine block_normal ?_ | refine block_ret ?_ | refine block_exit ?_ | refine block_pass rfl ?_)
      obtain rfl := Option.some.inj h
      exact end0 rfl (.tup (.cons (.agg (.cons (.refl _) (.cons (.refl _) (.cons (.refl _) (.cons (.refl _) (.cons (.refl _) (.cons (.nil _) (.cons (.refl _) (.cons (.nil _) (.cons (.nil _) (.cons (.refl _) .nil))))))))))) (.cons (.refl _) .nil)))
    · refine o_s (.t (.d (.seq 4 (List.map V.cells x4.1)))) (gy rfl rfl rfl h6) rfl rfl rfl ?_
      obtain ⟨x7, h8, h⟩ := bind_some h
      refine o_c (gy rfl rfl rfl h6) rfl rfl rfl (idxE' V.cells_eq h8) (idxC h8) ?_
      refine o_s (.imm [.seq 1 (bytesD x7.b), .seq 4 (List.map V.cells x7.l)]) (gy rfl rfl rfl h6) rfl rfl rfl ?_
      refine o_s (.t (.d (.seq 1 (bytesD x7.b)))) (gy rfl rfl rfl h6) rfl rfl rfl ?_
      refine o_c (gy rfl rfl rfl h6) rfl rfl rfl (strE _) (isB_bytes _) ?_
      refine o_c (gy rfl rfl rfl h6) rfl rfl rfl (congrArg (fun z => A.t (.d (.lit (.bool (!z))))) (str_beqL _ _)) trivial ?_
      refine o_pk (.t (.d (.lit (.bool (!(x7.b == [118, 101, 114, 115, 105, 111, 110])))))) (b := false) h6 (g0 rfl) rfl rfl rfl rfl rfl ?_
      refine o_s (.t (.d (.lit (.bool (!(x7.b == [118, 101, 114, 115, 105, 111, 110])))))) (g0 rfl) rfl rfl rfl ?_
      rcases bif_some h with ⟨h9, h⟩ | ⟨h9, h⟩
      · refine o_skip rfl rfl rfl h9 rfl rfl ?_
        refine o_skip rfl rfl rfl h9 rfl rfl ?_
        refine o_skip rfl rfl rfl h9 rfl rfl ?_
        refine o_skip rfl rfl rfl h9 rfl rfl ?_
        refine o_skip rfl rfl rfl h9 rfl rfl ?_
        refine o_pk (.t (.d (.lit (.bool true)))) (b := true) h9 (g0 rfl) rfl rfl rfl rfl rfl ?_
        refine o_nil ?_
        repeat (first | refine then_normal ?_ | refine then_exit ?_ | refine then_ret ?_ | refine block_normal ?_ | refine block_ret ?_ | refine block_exit ?_ | refine block_pass rfl ?_)
        refine c_t rfl rfl ?_
        refine c_seq ?_
        refine c_region ?_
        refine o_s (.t (.agg [.lit (.string ⟨⟨[]⟩⟩), .lit (.string ⟨⟨[]⟩⟩), .lit (.int .i64 0), .lit (.int .i64 0), .lit (.int .i64 0), .lit (.slice none 0 0), .lit (.bool false), .lit (.slice none 0 0), .lit (.slice none 0 0), .lit (.string ⟨⟨[]⟩⟩)])) (g0 rfl) rfl rfl (by kernel_rfl) ?_
        refine o_st (.box [.d (.lit (.string ⟨⟨[]⟩⟩)), .d (.lit (.string ⟨⟨[]⟩⟩)), .d (.lit (.int .i64 0)), .d (.lit (.int .i64 0)), .d (.lit (.int .i64 0)), .d (.lit (.slice none 0 0)), .d (.lit (.bool false)), .d (.lit (.slice none 0 0)), .d (.lit (.slice none 0 0)), .d (.lit (.string ⟨⟨[]⟩⟩))]) (g0 rfl) rfl rfl rfl ?_
        refine o_s (.t (.d (.lit (.int .i64 11)))) (g0 rfl) rfl rfl rfl ?_
        refine o_nil ?_
        repeat (first | refine then_normal ?_ | refine then_exit ?_ | refine then_ret ?_ | refine block_normal ?_ | refine block_ret ?_ | refine block_exit ?_ | refine block_pass rfl ?_)
        refine c_ret ?_
        repeat (first | refine then_normal ?_ | refine then_exit ?_ | refine then_ret ?_ | refine block_normal ?_ | refine block_ret ?_ | refine block_exit ?_ | refine block_pass rfl ?_)
        obtain rfl := Option.some.inj h
        exact end0 rfl (.tup (.cons (.agg (.cons (.refl _) (.cons (.refl _) (.cons (.refl _) (.cons (.refl _) (.cons (.refl _) (.cons (.nil _) (.cons (.refl _) (.cons (.nil _) (.cons (.nil _) (.cons (.refl _) .nil))))))))))) (.cons (.refl _) .nil)))
      · refine o_s (.t (.d (.seq 4 (List.map V.cells x4.1)))) (gy rfl rfl rfl h9) rfl rfl rfl ?_
        obtain ⟨x10, h11, h⟩ := bind_some h
        refine o_c (gy rfl rfl rfl h9) rfl rfl rfl (idxE' V.cells_eq h11) (idxC h11) ?_
        refine o_s (.imm [.lit (.int .i64 x10.n), .seq 1 (bytesD x10.b), .seq 4 (List.map V.cells x10.l)]) (gy rfl rfl rfl h9) rfl rfl rfl ?_
        refine o_s (.t (.d (.lit (.int .i64 x10.n)))) (gy rfl rfl rfl h9) rfl rfl rfl ?_
        refine o_s (.t (.d (.lit (.bool (decide (x10.n > 1)))))) (gy rfl rfl rfl h9) rfl rfl rfl ?_
        refine o_pk (.t (.d (.lit (.bool (decide (x10.n > 1)))))) (b := false) h9 (g0 rfl) rfl rfl rfl rfl rfl ?_
        refine o_nil ?_
        repeat (first | refine then_normal ?_ | refine then_exit ?_ | refine then_ret ?_ | refine block_normal ?_ | refine block_ret ?_ | refine block_exit ?_ | refine block_pass rfl ?_)
        rcases bif_some h with ⟨h12, h⟩ | ⟨h12, h⟩
        · refine c_t h12 rfl ?_
          refine c_seq ?_
          refine c_region ?_
          refine o_s (.t (.agg [.lit (.string ⟨⟨[]⟩⟩), .lit (.string ⟨⟨[]⟩⟩), .lit (.int .i64 0), .lit (.int .i64 0), .lit (.int .i64 0), .lit (.slice none 0 0), .lit (.bool false), .lit (.slice none 0 0), .lit (.slice none 0 0), .lit (.string ⟨⟨[]⟩⟩)])) (g0 rfl) rfl rfl (by kernel_rfl) ?_
          refine o_st (.box [.d (.lit (.string ⟨⟨[]⟩⟩)), .d (.lit (.string ⟨⟨[]⟩⟩)), .d (.lit (.int .i64 0)), .d (.lit (.int .i64 0)), .d (.lit (.int .i64 0)), .d (.lit (.slice none 0 0)), .d (.lit (.bool false)), .d (.lit (.slice none 0 0)), .d (.lit (.slice none 0 0)), .d (.lit (.string ⟨⟨[]⟩⟩))]) (g0 rfl) rfl rfl rfl ?_
          refine o_s (.t (.d (.lit (.int .i64 11)))) (g0 rfl) rfl rfl rfl ?_
          refine o_nil ?_
          repeat (first | refine then_normal ?_ | refine then_exit ?_ | refine then_ret ?_ | refine block_normal ?_ | refine block_ret ?_ | refine block_exit ?_ | refine block_pass rfl ?_)
          refine c_ret ?_
          repeat (first | refine then_normal ?_ | refine then_exit ?_ | refine then_ret ?_ | refine block_normal ?_ | refine block_ret ?_ | refine block_exit ?_ | refine block_pass rfl ?_)
          obtain rfl := Option.some.inj h
          exact end0 rfl (.tup (.cons (.agg (.cons (.refl _) (.cons (.refl _) (.cons (.refl _) (.cons (.refl _) (.cons (.refl _) (.cons (.nil _) (.cons (.refl _) (.cons (.nil _) (.cons (.nil _) (.cons (.refl _) .nil))))))))))) (.cons (.refl _) .nil)))
        · refine c_f h12 rfl ?_
          refine c_skip ?_
          repeat (first | refine then_normal ?_ | refine then_exit ?_ | refine then_ret ?_ | refine block_normal ?_ | refine block_ret ?_ | refine block_exit ?_ | refine block_pass rfl ?_)
          refine c_seq ?_
          refine c_draw mixed (by kernel_rfl) ?_
          refine d_s (.t (.d (.seq 4 (List.map V.cells x4.1)))) rfl (dg0 rfl) rfl rfl rfl rfl ?_
          obtain ⟨x13, h14, h⟩ := bind_some h
          refine d_c rfl (dg0 rfl) rfl rfl rfl rfl (idxE' V.cells_eq h14) (idxC h14) ?_
          refine d_s (.imm [.seq 1 (bytesD x13.b), .seq 4 (List.map V.cells x13.l)]) rfl (dg0 rfl) rfl rfl rfl rfl ?_
          refine d_s (.t (.d (.seq 1 (bytesD x13.b)))) rfl (dg0 rfl) rfl rfl rfl rfl ?_
          refine d_c rfl (dg0 rfl) rfl rfl rfl rfl (strE _) (isB_bytes _) ?_
          refine d_s (.t (.d (.seq 4 (List.map V.cells x4.1)))) rfl (dg0 rfl) rfl rfl rfl rfl ?_
          obtain ⟨x15, h16, h⟩ := bind_some h
          refine d_c rfl (dg0 rfl) rfl rfl rfl rfl (idxE' V.cells_eq h16) (idxC h16) ?_
          refine d_s (.imm [.seq 1 (bytesD x15.b), .seq 4 (List.map V.cells x15.l)]) rfl (dg0 rfl) rfl rfl rfl rfl ?_
          refine d_s (.t (.d (.seq 1 (bytesD x15.b)))) rfl (dg0 rfl) rfl rfl rfl rfl ?_
          refine d_c rfl (dg0 rfl) rfl rfl rfl rfl (strE _) (isB_bytes _) ?_
          refine d_s (.t (.d (.seq 4 (List.map V.cells x4.1)))) rfl (dg0 rfl) rfl rfl rfl rfl ?_
          obtain ⟨x17, h18, h⟩ := bind_some h
          refine d_c rfl (dg0 rfl) rfl rfl rfl rfl (idxE' V.cells_eq h18) (idxC h18) ?_
          refine d_s (.imm [.lit (.int .i64 x17.n), .seq 1 (bytesD x17.b), .seq 4 (List.map V.cells x17.l)]) rfl (dg0 rfl) rfl rfl rfl rfl ?_
          refine d_s (.t (.d (.lit (.int .i64 x17.n)))) rfl (dg0 rfl) rfl rfl rfl rfl ?_
          refine d_s (.t (.d (.seq 4 (List.map V.cells x4.1)))) rfl (dg0 rfl) rfl rfl rfl rfl ?_
          obtain ⟨x19, h20, h⟩ := bind_some h
          refine d_c rfl (dg0 rfl) rfl rfl rfl rfl (idxE' V.cells_eq h20) (idxC h20) ?_
          refine d_s (.imm [.lit (.int .i64 x19.n), .seq 1 (bytesD x19.b), .seq 4 (List.map V.cells x19.l)]) rfl (dg0 rfl) rfl rfl rfl rfl ?_
          refine d_s (.t (.d (.lit (.int .i64 x19.n)))) rfl (dg0 rfl) rfl rfl rfl rfl ?_
          refine d_s (.t (.d (.seq 4 (List.map V.cells x4.1)))) rfl (dg0 rfl) rfl rfl rfl rfl ?_
          obtain ⟨x21, h22, h⟩ := bind_some h
          refine d_c rfl (dg0 rfl) rfl rfl rfl rfl (idxE' V.cells_eq h22) (idxC h22) ?_
          refine d_s (.imm [.lit (.int .i64 x21.n), .seq 1 (bytesD x21.b), .seq 4 (List.map V.cells x21.l)]) rfl (dg0 rfl) rfl rfl rfl rfl ?_
          refine d_s (.t (.d (.lit (.int .i64 x21.n)))) rfl (dg0 rfl) rfl rfl rfl rfl ?_
          refine d_s (.t (.d (.seq 4 (List.map V.cells x4.1)))) rfl (dg0 rfl) rfl rfl rfl rfl ?_
          obtain ⟨x23, h24, h⟩ := bind_some h
          refine d_c rfl (dg0 rfl) rfl rfl rfl rfl (idxE' V.cells_eq h24) (idxC h24) ?_
          refine d_s (.imm [.seq 1 (bytesD x23.b), .seq 4 (List.map V.cells x23.l)]) rfl (dg0 rfl) rfl rfl rfl rfl ?_
          refine d_s (.t (.d (.seq 1 (bytesD x23.b)))) rfl (dg0 rfl) rfl rfl rfl rfl ?_
          refine d_s (.t (.d (.seq 4 (List.map V.cells x4.1)))) rfl (dg0 rfl) rfl rfl rfl rfl ?_
          obtain ⟨x25, h26, h⟩ := bind_some h
          refine d_c rfl (dg0 rfl) rfl rfl rfl rfl (idxE' V.cells_eq h26) (idxC h26) ?_
          refine d_s (.imm [.lit (.int .i64 x25.n), .seq 1 (bytesD x25.b), .seq 4 (List.map V.cells x25.l)]) rfl (dg0 rfl) rfl rfl rfl rfl ?_
          refine d_s (.t (.d (.lit (.int .i64 x25.n)))) rfl (dg0 rfl) rfl rfl rfl rfl ?_
          refine d_s (.t (.d (.lit (.bool (x25.n == 1))))) rfl (dg0 rfl) rfl rfl rfl rfl ?_
          refine d_s (.t (.d (.seq 4 (List.map V.cells x4.1)))) rfl (dg0 rfl) rfl rfl rfl rfl ?_
          obtain ⟨x27, h28, h⟩ := bind_some h
          refine d_c rfl (dg0 rfl) rfl rfl rfl rfl (idxE' V.cells_eq h28) (idxC h28) ?_
          refine d_s (.imm [.seq 1 (bytesD x27.b), .seq 4 (List.map V.cells x27.l)]) rfl (dg0 rfl) rfl rfl rfl rfl ?_
          refine d_s (.t (.d (.seq 1 (bytesD x27.b)))) rfl (dg0 rfl) rfl rfl rfl rfl ?_
          refine d_s (.t (.d (.seq 4 (List.map V.cells x4.1)))) rfl (dg0 rfl) rfl rfl rfl rfl ?_
          obtain ⟨x29, h30, h⟩ := bind_some h
          refine d_c rfl (dg0 rfl) rfl rfl rfl rfl (idxE' V.cells_eq h30) (idxC h30) ?_
          refine d_s (.imm [.seq 1 (bytesD x29.b), .seq 4 (List.map V.cells x29.l)]) rfl (dg0 rfl) rfl rfl rfl rfl ?_
          refine d_s (.t (.d (.seq 1 (bytesD x29.b)))) rfl (dg0 rfl) rfl rfl rfl rfl ?_
          refine d_s (.t (.d (.seq 4 (List.map V.cells x4.1)))) rfl (dg0 rfl) rfl rfl rfl rfl ?_
          obtain ⟨x31, h32, h⟩ := bind_some h
          refine d_c rfl (dg0 rfl) rfl rfl rfl rfl (idxE' V.cells_eq h32) (idxC h32) ?_
          refine d_s (.imm [.seq 1 (bytesD x31.b), .seq 4 (List.map V.cells x31.l)]) rfl (dg0 rfl) rfl rfl rfl rfl ?_
          refine d_s (.t (.d (.seq 1 (bytesD x31.b)))) rfl (dg0 rfl) rfl rfl rfl rfl ?_
          refine d_c rfl (dg0 rfl) rfl rfl rfl rfl (strE _) (isB_bytes _) ?_
          refine d_s (.t (.agg [.lit (.string ⟨⟨x13.b⟩⟩), .lit (.string ⟨⟨x15.b⟩⟩), .lit (.int .i64 x17.n), .lit (.int .i64 x19.n), .lit (.int .i64 x21.n), .seq 1 (bytesD x23.b), .lit (.bool (x25.n == 1)), .seq 1 (bytesD x27.b), .seq 1 (bytesD x29.b), .lit (.string ⟨⟨x31.b⟩⟩)])) rfl (dg0 rfl) rfl rfl rfl (by kernel_rfl) ?_
          refine d_s (.box [.d (.lit (.string ⟨⟨[]⟩⟩)), .d (.lit (.string ⟨⟨[]⟩⟩)), .d (.lit (.int .i64 0)), .d (.lit (.int .i64 0)), .d (.lit (.int .i64 0)), .d (.lit (.slice none 0 0)), .d (.lit (.bool false)), .d (.lit (.slice none 0 0)), .d (.lit (.slice none 0 0)), .d (.lit (.string ⟨⟨[]⟩⟩))]) rfl (dg0 rfl) rfl rfl rfl rfl ?_
          refine d_st (.box [.d (.lit (.string ⟨⟨x13.b⟩⟩)), .d (.lit (.string ⟨⟨x15.b⟩⟩)), .d (.lit (.int .i64 x17.n)), .d (.lit (.int .i64 x19.n)), .d (.lit (.int .i64 x21.n)), .d (.seq 1 (bytesD x23.b)), .d (.lit (.bool (x25.n == 1))), .d (.seq 1 (bytesD x27.b)), .d (.seq 1 (bytesD x29.b)), .d (.lit (.string ⟨⟨x31.b⟩⟩))]) rfl (dg0 rfl) rfl rfl rfl rfl ?_
          refine d_nil (by kernel_rfl) ?_
          repeat (first | refine then_normal ?_ | refine then_exit ?_ | refine then_ret ?_ | refine block_normal ?_ | refine block_ret ?_ | refine block_exit ?_ | refine block_pass rfl ?_)
          refine c_seq ?_
          refine c_seq ?_
          refine c_region ?_
          refine o_s (.t (.agg [.lit (.string ⟨⟨x13.b⟩⟩), .lit (.string ⟨⟨x15.b⟩⟩), .lit (.int .i64 x17.n), .lit (.int .i64 x19.n), .lit (.int .i64 x21.n), .seq 1 (bytesD x23.b), .lit (.bool (x25.n == 1)), .seq 1 (bytesD x27.b), .seq 1 (bytesD x29.b), .lit (.string ⟨⟨x31.b⟩⟩)])) (g0 rfl) rfl rfl rfl ?_
          obtain ⟨x33, h34, h⟩ := bind_some h
          refine o_ca (fc_record_mayVersion _ _ h34) (g0 rfl) rfl rfl rfl rfl rfl rfl rfl (.cons (.refl _) .nil) rfl rfl ?_
          refine o_s (.t (.d (.lit (.bool (!x33))))) (g0 rfl) rfl rfl rfl ?_
          refine o_nil ?_
          repeat (first | refine then_normal ?_ | refine then_exit ?_ | refine then_ret ?_ | refine block_normal ?_ | refine block_ret ?_ | refine block_exit ?_ | refine block_pass rfl ?_)
          rcases bif_some h with ⟨h35, h⟩ | ⟨h35, h⟩
          · refine c_t h35 rfl ?_
            refine c_seq ?_
            refine c_region ?_
            refine o_s (.t (.agg [.lit (.string ⟨⟨[]⟩⟩), .lit (.string ⟨⟨[]⟩⟩), .lit (.int .i64 0), .lit (.int .i64 0), .lit (.int .i64 0), .lit (.slice none 0 0), .lit (.bool false), .lit (.slice none 0 0), .lit (.slice none 0 0), .lit (.string ⟨⟨[]⟩⟩)])) (g0 rfl) rfl rfl (by kernel_rfl) ?_
            refine o_st (.box [.d (.lit (.string ⟨⟨[]⟩⟩)), .d (.lit (.string ⟨⟨[]⟩⟩)), .d (.lit (.int .i64 0)), .d (.lit (.int .i64 0)), .d (.lit (.int .i64 0)), .d (.lit (.slice none 0 0)), .d (.lit (.bool false)), .d (.lit (.slice none 0 0)), .d (.lit (.slice none 0 0)), .d (.lit (.string ⟨⟨[]⟩⟩))]) (g0 rfl) rfl rfl rfl ?_
            refine o_s (.t (.d (.lit (.int .i64 11)))) (g0 rfl) rfl rfl rfl ?_
            refine o_nil ?_
            repeat (first | refine then_normal ?_ | refine then_exit ?_ | refine then_ret ?_ | refine block_normal ?_ | refine block_ret ?_ | refine block_exit ?_ | refine block_pass rfl ?_)
            refine c_ret ?_
            repeat (first | refine then_normal ?_ | refine then_exit ?_ | refine then_ret ?_ | refine block_normal ?_ | refine block_ret ?_ | refine block_exit ?_ | refine block_pass rfl ?_)
            obtain rfl := Option.some.inj h
            exact end0 rfl (.tup (.cons (.agg (.cons (.refl _) (.cons (.refl _) (.cons (.refl _) (.cons (.refl _) (.cons (.refl _) (.cons (.nil _) (.cons (.refl _) (.cons (.nil _) (.cons (.nil _) (.cons (.refl _) .nil))))))))))) (.cons (.refl _) .nil)))
          · refine c_f h35 rfl ?_
            refine c_skip ?_
            repeat (first | refine then_normal ?_ | refine then_exit ?_ | refine then_ret ?_ | refine block_normal ?_ | refine block_ret ?_ | refine block_exit ?_ | refine block_pass rfl ?_)
            refine c_seq ?_
            refine c_region ?_
            refine o_s (.t (.agg [.lit (.string ⟨⟨x13.b⟩⟩), .lit (.string ⟨⟨x15.b⟩⟩), .lit (.int .i64 x17.n), .lit (.int .i64 x19.n), .lit (.int .i64 x21.n), .seq 1 (bytesD x23.b), .lit (.bool (x25.n == 1)), .seq 1 (bytesD x27.b), .seq 1 (bytesD x29.b), .lit (.string ⟨⟨x31.b⟩⟩)])) (g0 rfl) rfl rfl rfl ?_
            refine o_st (.box [.d (.lit (.string ⟨⟨x13.b⟩⟩)), .d (.lit (.string ⟨⟨x15.b⟩⟩)), .d (.lit (.int .i64 x17.n)), .d (.lit (.int .i64 x19.n)), .d (.lit (.int .i64 x21.n)), .d (.seq 1 (bytesD x23.b)), .d (.lit (.bool (x25.n == 1))), .d (.seq 1 (bytesD x27.b)), .d (.seq 1 (bytesD x29.b)), .d (.lit (.string ⟨⟨x31.b⟩⟩))]) (g0 rfl) rfl rfl rfl ?_
            refine o_s (.t (.d (.lit (.int .i64 0)))) (g0 rfl) rfl rfl rfl ?_
            refine o_nil ?_
            repeat (first | refine then_normal ?_ | refine then_exit ?_ | refine then_ret ?_ | refine block_normal ?_ | refine block_ret ?_ | refine block_exit ?_ | refine block_pass rfl ?_)
            refine c_ret ?_
            repeat (first | refine then_normal ?_ | refine then_exit ?_ | refine then_ret ?_ | refine block_normal ?_ | refine block_ret ?_ | refine block_exit ?_ | refine block_pass rfl ?_)
            obtain rfl := Option.some.inj h
            exact end0 rfl (.tup (.cons (.refl _) (.cons (.refl _) .nil)))

theorem fc_R28_Num (p0 : Int) (r : V) (h : m_R28_Num p0 = some r) : FC Tryd.prog 44 [.t (.d (.lit (.int .i64 p0)))] [] (.t (.agg [.lit (.int .i64 r.k), .lit (.int .i64 r.n), .lit (.slice none 0 0), .lit (.slice none 0 0)])) := by
  refine fc_mk (rs := [.cell 2 79]) (n := 5) Tryd.func44 rfl rfl (Nat.le_of_ble_eq_true rfl) rfl (pins := []) rfl (L := [(0, .t (.d (.lit (.int .i64 p0))))]) rfl ?_
  refine c_seq ?_
  refine c_region ?_
  refine o_s (.box [.d (.lit (.int .i64 0)), .d (.lit (.int .i64 0)), .d (.lit (.slice none 0 0)), .d (.lit (.slice none 0 0))]) (g0 rfl) rfl rfl rfl ?_
  refine o_nil ?_
  repeat (first | refine then_normal ?_ | refine then_exit ?_ | refine then_ret ?_ | refine block_normal ?_ | refine block_ret ?_ | refine block_exit ?_ | refine block_pass rfl ?_)
  refine c_seq ?_
  refine c_region ?_
  refine o_s (.t (.d (.lit (.int .i64 p0)))) (g0 rfl) rfl rfl rfl ?_
  refine o_s (.t (.agg [.lit (.int .i64 1), .lit (.int .i64 p0), .lit (.slice none 0 0), .lit (.slice none 0 0)])) (g0 rfl) rfl rfl rfl ?_
  refine o_st (.box [.d (.lit (.int .i64 1)), .d (.lit (.int .i64 p0)), .d (.lit (.slice none 0 0)), .d (.lit (.slice none 0 0))]) (g0 rfl) rfl rfl rfl ?_
  refine o_nil ?_
  repeat (first | refine then_normal ?_ | refine then_exit ?_ | refine then_ret ?_ | refine block_normal ?_ | refine block_ret ?_ | refine block_exit ?_ | refine block_pass rfl ?_)
  refine c_ret ?_
  repeat (first | refine then_normal ?_ | refine then_exit ?_ | refine then_ret ?_ | refine block_normal ?_ | refine block_ret ?_ | refine block_exit ?_ | refine block_pass rfl ?_)
  obtain rfl := Option.some.inj h
  exact end0 rfl (.refl _)

theorem fc_R28_Raw (p0 : (List UInt8)) (r : V) (h : m_R28_Raw p0 = some r) : FC Tryd.prog 45 [.t (.d (.seq 1 (bytesD p0)))] [] (.t (.agg [.lit (.int .i64 r.k), .lit (.int .i64 r.n), .seq 1 (bytesD r.b), .lit (.slice none 0 0)])) := by
  refine fc_mk (rs := [.cell 2 79]) (n := 5) Tryd.func45 rfl rfl (Nat.le_of_ble_eq_true rfl) rfl (pins := []) rfl (L := [(0, .t (.d (.seq 1 (bytesD p0))))]) rfl ?_
  refine c_seq ?_
  refine c_region ?_
  refine o_s (.box [.d (.lit (.int .i64 0)), .d (.lit (.int .i64 0)), .d (.lit (.slice none 0 0)), .d (.lit (.slice none 0 0))]) (g0 rfl) rfl rfl rfl ?_
  refine o_nil ?_
  repeat (first | refine then_normal ?_ | refine then_exit ?_ | refine then_ret ?_ | refine block_normal ?_ | refine block_ret ?_ | refine block_exit ?_ | refine block_pass rfl ?_)
  refine c_seq ?_
  refine c_region ?_
  refine o_s (.t (.d (.seq 1 (bytesD p0)))) (g0 rfl) rfl rfl rfl ?_
  refine o_s (.t (.agg [.lit (.int .i64 2), .lit (.int .i64 0), .seq 1 (bytesD p0), .lit (.slice none 0 0)])) (g0 rfl) rfl rfl rfl ?_
  refine o_st (.box [.d (.lit (.int .i64 2)), .d (.lit (.int .i64 0)), .d (.seq 1 (bytesD p0)), .d (.lit (.slice none 0 0))]) (g0 rfl) rfl rfl rfl ?_
  refine o_nil ?_
  repeat (first | refine then_normal ?_ | refine then_exit ?_ | refine then_ret ?_ | refine block_normal ?_ | refine block_ret ?_ | refine block_exit ?_ | refine block_pass rfl ?_)
  refine c_ret ?_
  repeat (first | refine then_normal ?_ | refine then_exit ?_ | refine then_ret ?_ | refine block_normal ?_ | refine block_ret ?_ | refine block_exit ?_ | refine block_pass rfl ?_)
  obtain rfl := Option.some.inj h
  exact end0 rfl (.refl _)

theorem fc_R28_Of (p0 : (List V)) (r : V) (h : m_R28_Of p0 = some r) : FC Tryd.prog 47 [.t (.d (.seq 4 (List.map V.cells p0)))] [] (.t (.agg [.lit (.int .i64 r.k), .lit (.int .i64 r.n), .lit (.slice none 0 0), .seq 4 (List.map V.cells r.l)])) := by
  refine fc_mk (rs := [.cell 2 79]) (n := 5) Tryd.func47 rfl rfl (Nat.le_of_ble_eq_true rfl) rfl (pins := []) rfl (L := [(0, .t (.d (.seq 4 (List.map V.cells p0))))]) rfl ?_
  refine c_seq ?_
  refine c_region ?_
  refine o_s (.box [.d (.lit (.int .i64 0)), .d (.lit (.int .i64 0)), .d (.lit (.slice none 0 0)), .d (.lit (.slice none 0 0))]) (g0 rfl) rfl rfl rfl ?_
  refine o_nil ?_
  repeat (first | refine then_normal ?_ | refine then_exit ?_ | refine then_ret ?_ | refine block_normal ?_ | refine block_ret ?_ | refine block_exit ?_ | refine block_pass rfl ?_)
  refine c_seq ?_
  refine c_region ?_
  refine o_s (.t (.d (.seq 4 (List.map V.cells p0)))) (g0 rfl) rfl rfl rfl ?_
  refine o_s (.t (.agg [.lit (.int .i64 3), .lit (.int .i64 0), .lit (.slice none 0 0), .seq 4 (List.map V.cells p0)])) (g0 rfl) rfl rfl rfl ?_
  refine o_st (.box [.d (.lit (.int .i64 3)), .d (.lit (.int .i64 0)), .d (.lit (.slice none 0 0)), .d (.seq 4 (List.map V.cells p0))]) (g0 rfl) rfl rfl rfl ?_
  refine o_nil ?_
  repeat (first | refine then_normal ?_ | refine then_exit ?_ | refine then_ret ?_ | refine block_normal ?_ | refine block_ret ?_ | refine block_exit ?_ | refine block_pass rfl ?_)
  refine c_ret ?_
  repeat (first | refine then_normal ?_ | refine then_exit ?_ | refine then_ret ?_ | refine block_normal ?_ | refine block_ret ?_ | refine block_exit ?_ | refine block_pass rfl ?_)
  obtain rfl := Option.some.inj h
  exact end0 rfl (.refl _)

theorem fc_R35_text (p0 : (List UInt8)) (r : V) (h : m_R35_text p0 = some r) : FC Tryd.prog 55 [.t (.d (.lit (.string ⟨⟨p0⟩⟩)))] [] (.t (.agg [.lit (.int .i64 r.k), .lit (.int .i64 r.n), .seq 1 (bytesD r.b), .lit (.slice none 0 0)])) := by
  refine fc_mk (rs := [.cell 2 79]) (n := 6) Tryd.func55 rfl rfl (Nat.le_of_ble_eq_true rfl) rfl (pins := []) rfl (L := [(0, .t (.d (.lit (.string ⟨⟨p0⟩⟩))))]) rfl ?_
  refine c_seq ?_
  refine c_region ?_
  refine o_s (.box [.d (.lit (.int .i64 0)), .d (.lit (.int .i64 0)), .d (.lit (.slice none 0 0)), .d (.lit (.slice none 0 0))]) (g0 rfl) rfl rfl rfl ?_
  refine o_nil ?_
  repeat (first | refine then_normal ?_ | refine then_exit ?_ | refine then_ret ?_ | refine block_normal ?_ | refine block_ret ?_ | refine block_exit ?_ | refine block_pass rfl ?_)
  refine c_seq ?_
  refine c_region ?_
  refine o_s (.t (.d (.lit (.string ⟨⟨p0⟩⟩)))) (g0 rfl) rfl rfl rfl ?_
  obtain ⟨x1, h2, h⟩ := bind_some h
  refine o_c (g0 rfl) rfl rfl rfl (strBE h2) (strBC h2) ?_
  obtain ⟨x3, h4, h⟩ := bind_some h
  refine o_ca (fc_R28_Raw _ _ h4) (g0 rfl) rfl rfl rfl rfl rfl rfl rfl (.cons (.refl _) .nil) rfl rfl ?_
  refine o_st (.box [.d (.lit (.int .i64 x3.k)), .d (.lit (.int .i64 x3.n)), .d (.seq 1 (bytesD x3.b)), .d (.lit (.slice none 0 0))]) (g0 rfl) rfl rfl rfl ?_
  refine o_nil ?_
  repeat (first | refine then_normal ?_ | refine then_exit ?_ | refine then_ret ?_ | refine block_normal ?_ | refine block_ret ?_ | refine block_exit ?_ | refine block_pass rfl ?_)
  refine c_ret ?_
  repeat (first | refine then_normal ?_ | refine then_exit ?_ | refine then_ret ?_ | refine block_normal ?_ | refine block_ret ?_ | refine block_exit ?_ | refine block_pass rfl ?_)
  obtain rfl := Option.some.inj h
  exact end0 rfl (.refl _)

theorem fc_R35_VersionText (p0 : S_api_VersionRecord) (r : (List UInt8)) (h : m_R35_VersionText p0 = some r) : FC Tryd.prog 23 [.t (.agg [.lit (.string ⟨⟨p0.Folder⟩⟩), .lit (.string ⟨⟨p0.Item⟩⟩), .lit (.int .i64 p0.Number), .lit (.int .i64 p0.Epoch), .lit (.int .i64 p0.Seq), .seq 1 (bytesD p0.Digest), .lit (.bool p0.Gone), .seq 1 (bytesD p0.Lock), .seq 1 (bytesD p0.Body), .lit (.string ⟨⟨p0.By⟩⟩)])] [] (.t (.own 5 1 (bytesD r))) := by
  refine fc_mk (rs := [.tmp 2]) (n := 39) Tryd.func23 rfl rfl (Nat.le_of_ble_eq_true rfl) rfl (pins := []) rfl (L := [(0, .t (.agg [.lit (.string ⟨⟨p0.Folder⟩⟩), .lit (.string ⟨⟨p0.Item⟩⟩), .lit (.int .i64 p0.Number), .lit (.int .i64 p0.Epoch), .lit (.int .i64 p0.Seq), .seq 1 (bytesD p0.Digest), .lit (.bool p0.Gone), .seq 1 (bytesD p0.Lock), .seq 1 (bytesD p0.Body), .lit (.string ⟨⟨p0.By⟩⟩)]))]) rfl ?_
  refine c_seq ?_
  refine c_region ?_
  refine o_s (.box [.d (.lit (.string ⟨⟨p0.Folder⟩⟩)), .d (.lit (.string ⟨⟨p0.Item⟩⟩)), .d (.lit (.int .i64 p0.Number)), .d (.lit (.int .i64 p0.Epoch)), .d (.lit (.int .i64 p0.Seq)), .d (.seq 1 (bytesD p0.Digest)), .d (.lit (.bool p0.Gone)), .d (.seq 1 (bytesD p0.Lock)), .d (.seq 1 (bytesD p0.Body)), .d (.lit (.string ⟨⟨p0.By⟩⟩))]) (g0 rfl) rfl rfl rfl ?_
  refine o_s (.t (.d (.lit (.slice none 0 0)))) (g0 rfl) rfl rfl rfl ?_
  refine o_nil ?_
  repeat (first | refine then_normal ?_ | refine then_exit ?_ | refine then_ret ?_ | refine block_normal ?_ | refine block_ret ?_ | refine block_exit ?_ | refine block_pass rfl ?_)
  refine c_seq ?_
  refine c_region ?_
  refine o_s (.t (.d (.lit (.int .i64 0)))) (g0 rfl) rfl rfl rfl ?_
  refine o_nil ?_
  repeat (first | refine then_normal ?_ | refine then_exit ?_ | refine then_ret ?_ | refine block_normal ?_ | refine block_ret ?_ | refine block_exit ?_ | refine block_pass rfl ?_)
  refine c_cut (fun (y1 : Int) => [(1, .box [.d (.lit (.string ⟨⟨p0.Folder⟩⟩)), .d (.lit (.string ⟨⟨p0.Item⟩⟩)), .d (.lit (.int .i64 p0.Number)), .d (.lit (.int .i64 p0.Epoch)), .d (.lit (.int .i64 p0.Seq)), .d (.seq 1 (bytesD p0.Digest)), .d (.lit (.bool p0.Gone)), .d (.seq 1 (bytesD p0.Lock)), .d (.seq 1 (bytesD p0.Body)), .d (.lit (.string ⟨⟨p0.By⟩⟩))]), (3, .t (.d (.lit (.int .i64 y1))))]) (fun (y1 : Int) => m_R35_VersionText_j1 p0 y1 = some r) ?_ ?_
  · refine c_seq ?_
    refine c_region ?_
    refine o_s (.ref 1 6) (g0 rfl) rfl rfl rfl ?_
    refine o_s (.t (.d (.lit (.bool p0.Gone)))) (g0 rfl) rfl rfl rfl ?_
    refine o_nil ?_
    repeat (first | refine then_normal ?_ | refine then_exit ?_ | refine then_ret ?_ | refine block_normal ?_ | refine block_ret ?_ | refine block_exit ?_ | refine block_pass rfl ?_)
    rcases bif_some h with ⟨h28, h⟩ | ⟨h28, h⟩
    · refine c_t h28 rfl ?_
      refine c_region ?_
      refine o_s (.t (.d (.lit (.int .i64 1)))) (g0 rfl) rfl rfl rfl ?_
      refine o_nil ?_
      repeat (first | refine then_normal ?_ | refine then_exit ?_ | refine then_ret ?_ | refine block_normal ?_ | refine block_ret ?_ | refine block_exit ?_ | refine block_pass rfl ?_)
      exact ⟨1, h, ⟨(.refl _), ⟨(.refl _), trivial⟩⟩, rfl⟩
    · refine c_f h28 rfl ?_
      refine c_skip ?_
      repeat (first | refine then_normal ?_ | refine then_exit ?_ | refine then_ret ?_ | refine block_normal ?_ | refine block_ret ?_ | refine block_exit ?_ | refine block_pass rfl ?_)
      exact ⟨0, h, ⟨(.refl _), ⟨(.refl _), trivial⟩⟩, rfl⟩
  · rintro y1 h
    refine c_seq ?_
    refine c_draw mixed (by kernel_rfl) ?_
    obtain ⟨x2, h3, h⟩ := bind_some h
    refine d_ca (fc_R35_text _ _ h3) rfl (dg0 rfl) rfl rfl rfl rfl rfl rfl rfl rfl (.cons (.refl _) .nil) rfl rfl ?_
    refine d_s (.ref 1 0) rfl (dg0 rfl) rfl rfl rfl rfl ?_
    refine d_s (.t (.d (.lit (.string ⟨⟨p0.Folder⟩⟩)))) rfl (dg0 rfl) rfl rfl rfl rfl ?_
    obtain ⟨x4, h5, h⟩ := bind_some h
    refine d_ca (fc_R35_text _ _ h5) rfl (dg0 rfl) rfl rfl rfl rfl rfl rfl rfl rfl (.cons (.refl _) .nil) rfl rfl ?_
    refine d_s (.ref 1 1) rfl (dg0 rfl) rfl rfl rfl rfl ?_
    refine d_s (.t (.d (.lit (.string ⟨⟨p0.Item⟩⟩)))) rfl (dg0 rfl) rfl rfl rfl rfl ?_
    obtain ⟨x6, h7, h⟩ := bind_some h
    refine d_ca (fc_R35_text _ _ h7) rfl (dg0 rfl) rfl rfl rfl rfl rfl rfl rfl rfl (.cons (.refl _) .nil) rfl rfl ?_
    refine d_s (.ref 1 2) rfl (dg0 rfl) rfl rfl rfl rfl ?_
    refine d_s (.t (.d (.lit (.int .i64 p0.Number)))) rfl (dg0 rfl) rfl rfl rfl rfl ?_
    obtain ⟨x8, h9, h⟩ := bind_some h
    refine d_ca (fc_R28_Num _ _ h9) rfl (dg0 rfl) rfl rfl rfl rfl rfl rfl rfl rfl (.cons (.refl _) .nil) rfl rfl ?_
    refine d_s (.ref 1 3) rfl (dg0 rfl) rfl rfl rfl rfl ?_
    refine d_s (.t (.d (.lit (.int .i64 p0.Epoch)))) rfl (dg0 rfl) rfl rfl rfl rfl ?_
    obtain ⟨x10, h11, h⟩ := bind_some h
    refine d_ca (fc_R28_Num _ _ h11) rfl (dg0 rfl) rfl rfl rfl rfl rfl rfl rfl rfl (.cons (.refl _) .nil) rfl rfl ?_
    refine d_s (.ref 1 4) rfl (dg0 rfl) rfl rfl rfl rfl ?_
    refine d_s (.t (.d (.lit (.int .i64 p0.Seq)))) rfl (dg0 rfl) rfl rfl rfl rfl ?_
    obtain ⟨x12, h13, h⟩ := bind_some h
    refine d_ca (fc_R28_Num _ _ h13) rfl (dg0 rfl) rfl rfl rfl rfl rfl rfl rfl rfl (.cons (.refl _) .nil) rfl rfl ?_
    refine d_s (.ref 1 5) rfl (dg0 rfl) rfl rfl rfl rfl ?_
    refine d_s (.t (.d (.seq 1 (bytesD p0.Digest)))) rfl (dg0 rfl) rfl rfl rfl rfl ?_
    obtain ⟨x14, h15, h⟩ := bind_some h
    refine d_ca (fc_R28_Raw _ _ h15) rfl (dg0 rfl) rfl rfl rfl rfl rfl rfl rfl rfl (.cons (.refl _) .nil) rfl rfl ?_
    refine d_s (.t (.d (.lit (.int .i64 y1)))) rfl (dg0 rfl) rfl rfl rfl rfl ?_
    obtain ⟨x16, h17, h⟩ := bind_some h
    refine d_ca (fc_R28_Num _ _ h17) rfl (dg0 rfl) rfl rfl rfl rfl rfl rfl rfl rfl (.cons (.refl _) .nil) rfl rfl ?_
    refine d_s (.ref 1 7) rfl (dg0 rfl) rfl rfl rfl rfl ?_
    refine d_s (.t (.d (.seq 1 (bytesD p0.Lock)))) rfl (dg0 rfl) rfl rfl rfl rfl ?_
    obtain ⟨x18, h19, h⟩ := bind_some h
    refine d_ca (fc_R28_Raw _ _ h19) rfl (dg0 rfl) rfl rfl rfl rfl rfl rfl rfl rfl (.cons (.refl _) .nil) rfl rfl ?_
    refine d_s (.ref 1 8) rfl (dg0 rfl) rfl rfl rfl rfl ?_
    refine d_s (.t (.d (.seq 1 (bytesD p0.Body)))) rfl (dg0 rfl) rfl rfl rfl rfl ?_
    obtain ⟨x20, h21, h⟩ := bind_some h
    refine d_ca (fc_R28_Raw _ _ h21) rfl (dg0 rfl) rfl rfl rfl rfl rfl rfl rfl rfl (.cons (.refl _) .nil) rfl rfl ?_
    refine d_s (.ref 1 9) rfl (dg0 rfl) rfl rfl rfl rfl ?_
    refine d_s (.t (.d (.lit (.string ⟨⟨p0.By⟩⟩)))) rfl (dg0 rfl) rfl rfl rfl rfl ?_
    obtain ⟨x22, h23, h⟩ := bind_some h
    refine d_ca (fc_R35_text _ _ h23) rfl (dg0 rfl) rfl rfl rfl rfl rfl rfl rfl rfl (.cons (.refl _) .nil) rfl rfl ?_
    refine d_w (.t (.own 79 4 (List.map V.cells [(V.mk x2.k x2.n x2.b []), (V.mk x4.k x4.n x4.b []), (V.mk x6.k x6.n x6.b []), (V.mk x8.k x8.n [] []), (V.mk x10.k x10.n [] []), (V.mk x12.k x12.n [] []), (V.mk x14.k x14.n x14.b []), (V.mk x16.k x16.n [] []), (V.mk x18.k x18.n x18.b []), (V.mk x20.k x20.n x20.b []), (V.mk x22.k x22.n x22.b [])]))) rfl (dg0 rfl) rfl rfl rfl rfl (.t (.rows _ _ (.cons (.cons (.refl _) (.cons (.refl _) (.cons (.refl _) (.cons (.nil _) .nil)))) (.cons (.cons (.refl _) (.cons (.refl _) (.cons (.refl _) (.cons (.nil _) .nil)))) (.cons (.cons (.refl _) (.cons (.refl _) (.cons (.refl _) (.cons (.nil _) .nil)))) (.cons (.cons (.refl _) (.cons (.refl _) (.cons (.nil _) (.cons (.nil _) .nil)))) (.cons (.cons (.refl _) (.cons (.refl _) (.cons (.nil _) (.cons (.nil _) .nil)))) (.cons (.cons (.refl _) (.cons (.refl _) (.cons (.nil _) (.cons (.nil _) .nil)))) (.cons (.cons (.refl _) (.cons (.refl _) (.cons (.refl _) (.cons (.nil _) .nil)))) (.cons (.cons (.refl _) (.cons (.refl _) (.cons (.nil _) (.cons (.nil _) .nil)))) (.cons (.cons (.refl _) (.cons (.refl _) (.cons (.refl _) (.cons (.nil _) .nil)))) (.cons (.cons (.refl _) (.cons (.refl _) (.cons (.refl _) (.cons (.nil _) .nil)))) (.cons (.cons (.refl _) (.cons (.refl _) (.cons (.refl _) (.cons (.nil _) .nil)))) .nil))))))))))) (rowsE V.cells_eq [(V.mk x2.k x2.n x2.b []), (V.mk x4.k x4.n x4.b []), (V.mk x6.k x6.n x6.b []), (V.mk x8.k x8.n [] []), (V.mk x10.k x10.n [] []), (V.mk x12.k x12.n [] []), (V.mk x14.k x14.n x14.b []), (V.mk x16.k x16.n [] []), (V.mk x18.k x18.n x18.b []), (V.mk x20.k x20.n x20.b []), (V.mk x22.k x22.n x22.b [])]))) (fun e => nomatch e) ?_
    obtain ⟨x24, h25, h⟩ := bind_some h
    refine d_ca (fc_R28_Of _ _ h25) rfl (dg0 rfl) rfl rfl rfl rfl rfl rfl rfl rfl (.cons (.refl _) .nil) rfl rfl ?_
    obtain ⟨x26, h27, h⟩ := bind_some h
    refine d_ca (fc_R02_Bytes _ _ _ h27) rfl (dg0 rfl) rfl rfl rfl rfl rfl rfl rfl rfl (.cons (.t (.agg (.cons (.refl _) (.cons (.refl _) (.cons (.nil _) (.cons (.refl _) .nil)))))) .nil) rfl rfl ?_
    refine d_2 (.t (.d (.seq 1 (bytesD x26)))) (.t (.own 5 1 (bytesD x26))) rfl (dg0 rfl) rfl rfl rfl rfl rfl ?_
    refine d_nil (by kernel_rfl) ?_
    repeat (first | refine then_normal ?_ | refine then_exit ?_ | refine then_ret ?_ | refine block_normal ?_ | refine block_ret ?_ | refine block_exit ?_ | refine block_pass rfl ?_)
    refine c_ret ?_
    repeat (first | refine then_normal ?_ | refine then_exit ?_ | refine then_ret ?_ | refine block_normal ?_ | refine block_ret ?_ | refine block_exit ?_ | refine block_pass rfl ?_)
    obtain rfl := Option.some.inj h
    exact end0 rfl (.refl _)

theorem fc_R35_SameVersion (p0 : S_api_VersionRecord) (p1 : S_api_VersionRecord) (r : Bool) (h : m_R35_SameVersion p0 p1 = some r) : FC Tryd.prog 24 [.t (.agg [.lit (.string ⟨⟨p0.Folder⟩⟩), .lit (.string ⟨⟨p0.Item⟩⟩), .lit (.int .i64 p0.Number), .lit (.int .i64 p0.Epoch), .lit (.int .i64 p0.Seq), .seq 1 (bytesD p0.Digest), .lit (.bool p0.Gone), .seq 1 (bytesD p0.Lock), .seq 1 (bytesD p0.Body), .lit (.string ⟨⟨p0.By⟩⟩)]), .t (.agg [.lit (.string ⟨⟨p1.Folder⟩⟩), .lit (.string ⟨⟨p1.Item⟩⟩), .lit (.int .i64 p1.Number), .lit (.int .i64 p1.Epoch), .lit (.int .i64 p1.Seq), .seq 1 (bytesD p1.Digest), .lit (.bool p1.Gone), .seq 1 (bytesD p1.Lock), .seq 1 (bytesD p1.Body), .lit (.string ⟨⟨p1.By⟩⟩)])] [] (.t (.d (.lit (.bool r)))) := by
  refine fc_mk (rs := [.tmp 4]) (n := 71) Tryd.func24 rfl rfl (Nat.le_of_ble_eq_true rfl) rfl (pins := []) rfl (L := [(0, .t (.agg [.lit (.string ⟨⟨p0.Folder⟩⟩), .lit (.string ⟨⟨p0.Item⟩⟩), .lit (.int .i64 p0.Number), .lit (.int .i64 p0.Epoch), .lit (.int .i64 p0.Seq), .seq 1 (bytesD p0.Digest), .lit (.bool p0.Gone), .seq 1 (bytesD p0.Lock), .seq 1 (bytesD p0.Body), .lit (.string ⟨⟨p0.By⟩⟩)])), (1, .t (.agg [.lit (.string ⟨⟨p1.Folder⟩⟩), .lit (.string ⟨⟨p1.Item⟩⟩), .lit (.int .i64 p1.Number), .lit (.int .i64 p1.Epoch), .lit (.int .i64 p1.Seq), .seq 1 (bytesD p1.Digest), .lit (.bool p1.Gone), .seq 1 (bytesD p1.Lock), .seq 1 (bytesD p1.Body), .lit (.string ⟨⟨p1.By⟩⟩)]))]) rfl ?_
  refine c_seq ?_
  refine c_region ?_
  refine o_s (.box [.d (.lit (.string ⟨⟨p0.Folder⟩⟩)), .d (.lit (.string ⟨⟨p0.Item⟩⟩)), .d (.lit (.int .i64 p0.Number)), .d (.lit (.int .i64 p0.Epoch)), .d (.lit (.int .i64 p0.Seq)), .d (.seq 1 (bytesD p0.Digest)), .d (.lit (.bool p0.Gone)), .d (.seq 1 (bytesD p0.Lock)), .d (.seq 1 (bytesD p0.Body)), .d (.lit (.string ⟨⟨p0.By⟩⟩))]) (g0 rfl) rfl rfl rfl ?_
  refine o_s (.box [.d (.lit (.string ⟨⟨p1.Folder⟩⟩)), .d (.lit (.string ⟨⟨p1.Item⟩⟩)), .d (.lit (.int .i64 p1.Number)), .d (.lit (.int .i64 p1.Epoch)), .d (.lit (.int .i64 p1.Seq)), .d (.seq 1 (bytesD p1.Digest)), .d (.lit (.bool p1.Gone)), .d (.seq 1 (bytesD p1.Lock)), .d (.seq 1 (bytesD p1.Body)), .d (.lit (.string ⟨⟨p1.By⟩⟩))]) (g0 rfl) rfl rfl rfl ?_
  refine o_s (.t (.d (.lit (.bool false)))) (g0 rfl) rfl rfl rfl ?_
  refine o_nil ?_
  repeat (first | refine then_normal ?_ | refine then_exit ?_ | refine then_ret ?_ | refine block_normal ?_ | refine block_ret ?_ | refine block_exit ?_ | refine block_pass rfl ?_)
  refine c_seq ?_
  refine c_seq ?_
  refine c_region ?_
  refine o_s (.ref 2 0) (g0 rfl) rfl rfl rfl ?_
  refine o_s (.t (.d (.lit (.string ⟨⟨p0.Folder⟩⟩)))) (g0 rfl) rfl rfl rfl ?_
  refine o_s (.ref 3 0) (g0 rfl) rfl rfl rfl ?_
  refine o_s (.t (.d (.lit (.string ⟨⟨p1.Folder⟩⟩)))) (g0 rfl) rfl rfl rfl ?_
  refine o_c (g0 rfl) rfl rfl rfl (congrArg (fun z => A.t (.d (.lit (.bool (!z))))) (str_beqL _ _)) trivial ?_
  refine o_s (.t (.d (.lit (.bool (!(p0.Folder == p1.Folder)))))) (g0 rfl) rfl rfl rfl ?_
  rcases bif_some h with ⟨h1, h⟩ | ⟨h1, h⟩
  · refine o_skip rfl rfl rfl h1 rfl rfl ?_
    refine o_skip rfl rfl rfl h1 rfl rfl ?_
    refine o_skip rfl rfl rfl h1 rfl rfl ?_
    refine o_skip rfl rfl rfl h1 rfl rfl ?_
    refine o_skip rfl rfl rfl h1 rfl rfl ?_
    refine o_pk (.t (.d (.lit (.bool true)))) (b := true) h1 (g0 rfl) rfl rfl rfl rfl rfl ?_
    refine o_s (.t (.d (.lit (.bool true)))) (g0 rfl) rfl rfl rfl ?_
    refine o_skip rfl rfl rfl rfl rfl rfl ?_
    refine o_skip rfl rfl rfl rfl rfl rfl ?_
    refine o_skip rfl rfl rfl rfl rfl rfl ?_
    refine o_skip rfl rfl rfl rfl rfl rfl ?_
    refine o_skip rfl rfl rfl rfl rfl rfl ?_
    refine o_pk (.t (.d (.lit (.bool true)))) (b := true) rfl (g0 rfl) rfl rfl rfl rfl rfl ?_
    refine o_s (.t (.d (.lit (.bool true)))) (g0 rfl) rfl rfl rfl ?_
    refine o_skip rfl rfl rfl rfl rfl rfl ?_
    refine o_skip rfl rfl rfl rfl rfl rfl ?_
    refine o_skip rfl rfl rfl rfl rfl rfl ?_
    refine o_skip rfl rfl rfl rfl rfl rfl ?_
    refine o_skip rfl rfl rfl rfl rfl rfl ?_
    refine o_pk (.t (.d (.lit (.bool true)))) (b := true) rfl (g0 rfl) rfl rfl rfl rfl rfl ?_
    refine o_s (.t (.d (.lit (.bool true)))) (g0 rfl) rfl rfl rfl ?_
    refine o_skip rfl rfl rfl rfl rfl rfl ?_
    refine o_skip rfl rfl rfl rfl rfl rfl ?_
    refine o_skip rfl rfl rfl rfl rfl rfl ?_
    refine o_skip rfl rfl rfl rfl rfl rfl ?_
    refine o_skip rfl rfl rfl rfl rfl rfl ?_
    refine o_pk (.t (.d (.lit (.bool true)))) (b := true) rfl (g0 rfl) rfl rfl rfl rfl rfl ?_
    refine o_s (.t (.d (.lit (.bool true)))) (g0 rfl) rfl rfl rfl ?_
    refine o_skip rfl rfl rfl rfl rfl rfl ?_
    refine o_skip rfl rfl rfl rfl rfl rfl ?_
    refine o_skip rfl rfl rfl rfl rfl rfl ?_
    refine o_skip rfl rfl rfl rfl rfl rfl ?_
    refine o_skip rfl rfl rfl rfl rfl rfl ?_
    refine o_pk (.t (.d (.lit (.bool true)))) (b := true) rfl (g0 rfl) rfl rfl rfl rfl rfl ?_
    refine o_s (.t (.d (.lit (.bool true)))) (g0 rfl) rfl rfl rfl ?_
    refine o_skip rfl rfl rfl rfl rfl rfl ?_
    refine o_skip rfl rfl rfl rfl rfl rfl ?_
    refine o_skip rfl rfl rfl rfl rfl rfl ?_
    refine o_skip rfl rfl rfl rfl rfl rfl ?_
    refine o_skip rfl rfl rfl rfl rfl rfl ?_
    refine o_pk (.t (.d (.lit (.bool true)))) (b := true) rfl (g0 rfl) rfl rfl rfl rfl rfl ?_
    refine o_nil ?_
    repeat (first | refine then_normal ?_ | refine then_exit ?_ | refine then_ret ?_ | refine block_normal ?_ | refine block_ret ?_ | refine block_exit ?_ | refine block_pass rfl ?_)
    refine c_t rfl rfl ?_
    refine c_seq ?_
    refine c_region ?_
    refine o_s (.t (.d (.lit (.bool false)))) (g0 rfl) rfl rfl rfl ?_
    refine o_nil ?_
    repeat (first | refine then_normal ?_ | refine then_exit ?_ | refine then_ret ?_ | refine block_normal ?_ | refine block_ret ?_ | refine block_exit ?_ | refine block_pass rfl ?_)
    refine c_ret ?_
    repeat (first | refine then_normal ?_ | refine then_exit ?_ | refine then_ret ?_ | refine block_normal ?_ | refine block_ret ?_ | refine block_exit ?_ | refine block_pass rfl ?_)
    obtain rfl := Option.some.inj h
    exact end0 rfl (.refl _)
  · refine o_s (.ref 2 1) (gy rfl rfl rfl h1) rfl rfl rfl ?_
    refine o_s (.t (.d (.lit (.string ⟨⟨p0.Item⟩⟩)))) (gy rfl rfl rfl h1) rfl rfl rfl ?_
    refine o_s (.ref 3 1) (gy rfl rfl rfl h1) rfl rfl rfl ?_
    refine o_s (.t (.d (.lit (.string ⟨⟨p1.Item⟩⟩)))) (gy rfl rfl rfl h1) rfl rfl rfl ?_
    refine o_c (gy rfl rfl rfl h1) rfl rfl rfl (congrArg (fun z => A.t (.d (.lit (.bool (!z))))) (str_beqL _ _)) trivial ?_
    refine o_pk (.t (.d (.lit (.bool (!(p0.Item == p1.Item)))))) (b := false) h1 (g0 rfl) rfl rfl rfl rfl rfl ?_
    refine o_s (.t (.d (.lit (.bool (!(p0.Item == p1.Item)))))) (g0 rfl) rfl rfl rfl ?_
    rcases bif_some h with ⟨h2, h⟩ | ⟨h2, h⟩
    · refine o_skip rfl rfl rfl h2 rfl rfl ?_
      refine o_skip rfl rfl rfl h2 rfl rfl ?_
      refine o_skip rfl rfl rfl h2 rfl rfl ?_
      refine o_skip rfl rfl rfl h2 rfl rfl ?_
      refine o_skip rfl rfl rfl h2 rfl rfl ?_
      refine o_pk (.t (.d (.lit (.bool true)))) (b := true) h2 (g0 rfl) rfl rfl rfl rfl rfl ?_
      refine o_s (.t (.d (.lit (.bool true)))) (g0 rfl) rfl rfl rfl ?_
      refine o_skip rfl rfl rfl rfl rfl rfl ?_
      refine o_skip rfl rfl rfl rfl rfl rfl ?_
      refine o_skip rfl rfl rfl rfl rfl rfl ?_
      refine o_skip rfl rfl rfl rfl rfl rfl ?_
      refine o_skip rfl rfl rfl rfl rfl rfl ?_
      refine o_pk (.t (.d (.lit (.bool true)))) (b := true) rfl (g0 rfl) rfl rfl rfl rfl rfl ?_
      refine o_s (.t (.d (.lit (.bool true)))) (g0 rfl) rfl rfl rfl ?_
      refine o_skip rfl rfl rfl rfl rfl rfl ?_
      refine o_skip rfl rfl rfl rfl rfl rfl ?_
      refine o_skip rfl rfl rfl rfl rfl rfl ?_
      refine o_skip rfl rfl rfl rfl rfl rfl ?_
      refine o_skip rfl rfl rfl rfl rfl rfl ?_
      refine o_pk (.t (.d (.lit (.bool true)))) (b := true) rfl (g0 rfl) rfl rfl rfl rfl rfl ?_
      refine o_s (.t (.d (.lit (.bool true)))) (g0 rfl) rfl rfl rfl ?_
      refine o_skip rfl rfl rfl rfl rfl rfl ?_
      refine o_skip rfl rfl rfl rfl rfl rfl ?_
      refine o_skip rfl rfl rfl rfl rfl rfl ?_
      refine o_skip rfl rfl rfl rfl rfl rfl ?_
      refine o_skip rfl rfl rfl rfl rfl rfl ?_
      refine o_pk (.t (.d (.lit (.bool true)))) (b := true) rfl (g0 rfl) rfl rfl rfl rfl rfl ?_
      refine o_s (.t (.d (.lit (.bool true)))) (g0 rfl) rfl rfl rfl ?_
      refine o_skip rfl rfl rfl rfl rfl rfl ?_
      refine o_skip rfl rfl rfl rfl rfl rfl ?_
      refine o_skip rfl rfl rfl rfl rfl rfl ?_
      refine o_skip rfl rfl rfl rfl rfl rfl ?_
      refine o_skip rfl rfl rfl rfl rfl rfl ?_
      refine o_pk (.t (.d (.lit (.bool true)))) (b := true) rfl (g0 rfl) rfl rfl rfl rfl rfl ?_
      refine o_nil ?_
      repeat (first | refine then_normal ?_ | refine then_exit ?_ | refine then_ret ?_ | refine block_normal ?_ | refine block_ret ?_ | refine block_exit ?_ | refine block_pass rfl ?_)
      refine c_t rfl rfl ?_
      refine c_seq ?_
      refine c_region ?_
      refine o_s (.t (.d (.lit (.bool false)))) (g0 rfl) rfl rfl rfl ?_
      refine o_nil ?_
      repeat (first | refine then_normal ?_ | refine then_exit ?_ | refine then_ret ?_ | refine block_normal ?_ | refine block_ret ?_ | refine block_exit ?_ | refine block_pass rfl ?_)
      refine c_ret ?_
      repeat (first | refine then_normal ?_ | refine then_exit ?_ | refine then_ret ?_ | refine block_normal ?_ | refine block_ret ?_ | refine block_exit ?_ | refine block_pass rfl ?_)
      obtain rfl := Option.some.inj h
      exact end0 rfl (.refl _)
    · refine o_s (.ref 2 2) (gy rfl rfl rfl h2) rfl rfl rfl ?_
      refine o_s (.t (.d (.lit (.int .i64 p0.Number)))) (gy rfl rfl rfl h2) rfl rfl rfl ?_
      refine o_s (.ref 3 2) (gy rfl rfl rfl h2) rfl rfl rfl ?_
      refine o_s (.t (.d (.lit (.int .i64 p1.Number)))) (gy rfl rfl rfl h2) rfl rfl rfl ?_
      refine o_s (.t (.d (.lit (.bool (p0.Number != p1.Number))))) (gy rfl rfl rfl h2) rfl rfl rfl ?_
      refine o_pk (.t (.d (.lit (.bool (p0.Number != p1.Number))))) (b := false) h2 (g0 rfl) rfl rfl rfl rfl rfl ?_
      refine o_s (.t (.d (.lit (.bool (p0.Number != p1.Number))))) (g0 rfl) rfl rfl rfl ?_
      rcases bif_some h with ⟨h3, h⟩ | ⟨h3, h⟩
      · refine o_skip rfl rfl rfl h3 rfl rfl ?_
        refine o_skip rfl rfl rfl h3 rfl rfl ?_
        refine o_skip rfl rfl rfl h3 rfl rfl ?_
        refine o_skip rfl rfl rfl h3 rfl rfl ?_
        refine o_skip rfl rfl rfl h3 rfl rfl ?_
        refine o_pk (.t (.d (.lit (.bool true)))) (b := true) h3 (g0 rfl) rfl rfl rfl rfl rfl ?_
        refine o_s (.t (.d (.lit (.bool true)))) (g0 rfl) rfl rfl rfl ?_
        refine o_skip rfl rfl rfl rfl rfl rfl ?_
        refine o_skip rfl rfl rfl rfl rfl rfl ?_
        refine o_skip rfl rfl rfl rfl rfl rfl ?_
        refine o_skip rfl rfl rfl rfl rfl rfl ?_
        refine o_skip rfl rfl rfl rfl rfl rfl ?_
        refine o_pk (.t (.d (.lit (.bool true)))) (b := true) rfl (g0 rfl) rfl rfl rfl rfl rfl ?_
        refine o_s (.t (.d (.lit (.bool true)))) (g0 rfl) rfl rfl rfl ?_
        refine o_skip rfl rfl rfl rfl rfl rfl ?_
        refine o_skip rfl rfl rfl rfl rfl rfl ?_
        refine o_skip rfl rfl rfl rfl rfl rfl ?_
        refine o_skip rfl rfl rfl rfl rfl rfl ?_
        refine o_skip rfl rfl rfl rfl rfl rfl ?_
        refine o_pk (.t (.d (.lit (.bool true)))) (b := true) rfl (g0 rfl) rfl rfl rfl rfl rfl ?_
        refine o_s (.t (.d (.lit (.bool true)))) (g0 rfl) rfl rfl rfl ?_
        refine o_skip rfl rfl rfl rfl rfl rfl ?_
        refine o_skip rfl rfl rfl rfl rfl rfl ?_
        refine o_skip rfl rfl rfl rfl rfl rfl ?_
        refine o_skip rfl rfl rfl rfl rfl rfl ?_
        refine o_skip rfl rfl rfl rfl rfl rfl ?_
        refine o_pk (.t (.d (.lit (.bool true)))) (b := true) rfl (g0 rfl) rfl rfl rfl rfl rfl ?_
        refine o_nil ?_
        repeat (first | refine then_normal ?_ | refine then_exit ?_ | refine then_ret ?_ | refine block_normal ?_ | refine block_ret ?_ | refine block_exit ?_ | refine block_pass rfl ?_)
        refine c_t rfl rfl ?_
        refine c_seq ?_
        refine c_region ?_
        refine o_s (.t (.d (.lit (.bool false)))) (g0 rfl) rfl rfl rfl ?_
        refine o_nil ?_
        repeat (first | refine then_normal ?_ | refine then_exit ?_ | refine then_ret ?_ | refine block_normal ?_ | refine block_ret ?_ | refine block_exit ?_ | refine block_pass rfl ?_)
        refine c_ret ?_
        repeat (first | refine then_normal ?_ | refine then_exit ?_ | refine then_ret ?_ | refine block_normal ?_ | refine block_ret ?_ | refine block_exit ?_ | refine block_pass rfl ?_)
        obtain rfl := Option.some.inj h
        exact end0 rfl (.refl _)
      · refine o_s (.ref 2 3) (gy rfl rfl rfl h3) rfl rfl rfl ?_
        refine o_s (.t (.d (.lit (.int .i64 p0.Epoch)))) (gy rfl rfl rfl h3) rfl rfl rfl ?_
        refine o_s (.ref 3 3) (gy rfl rfl rfl h3) rfl rfl rfl ?_
        refine o_s (.t (.d (.lit (.int .i64 p1.Epoch)))) (gy rfl rfl rfl h3) rfl rfl rfl ?_
        refine o_s (.t (.d (.lit (.bool (p0.Epoch != p1.Epoch))))) (gy rfl rfl rfl h3) rfl rfl rfl ?_
        refine o_pk (.t (.d (.lit (.bool (p0.Epoch != p1.Epoch))))) (b := false) h3 (g0 rfl) rfl rfl rfl rfl rfl ?_
        refine o_s (.t (.d (.lit (.bool (p0.Epoch != p1.Epoch))))) (g0 rfl) rfl rfl rfl ?_
        rcases bif_some h with ⟨h4, h⟩ | ⟨h4, h⟩
        · refine o_skip rfl rfl rfl h4 rfl rfl ?_
          refine o_skip rfl rfl rfl h4 rfl rfl ?_
          refine o_skip rfl rfl rfl h4 rfl rfl ?_
          refine o_skip rfl rfl rfl h4 rfl rfl ?_
          refine o_skip rfl rfl rfl h4 rfl rfl ?_
          refine o_pk (.t (.d (.lit (.bool true)))) (b := true) h4 (g0 rfl) rfl rfl rfl rfl rfl ?_
          refine o_s (.t (.d (.lit (.bool true)))) (g0 rfl) rfl rfl rfl ?_
          refine o_skip rfl rfl rfl rfl rfl rfl ?_
          refine o_skip rfl rfl rfl rfl rfl rfl ?_
          refine o_skip rfl rfl rfl rfl rfl rfl ?_
          refine o_skip rfl rfl rfl rfl rfl rfl ?_
          refine o_skip rfl rfl rfl rfl rfl rfl ?_
          refine o_pk (.t (.d (.lit (.bool true)))) (b := true) rfl (g0 rfl) rfl rfl rfl rfl rfl ?_
          refine o_s (.t (.d (.lit (.bool true)))) (g0 rfl) rfl rfl rfl ?_
          refine o_skip rfl rfl rfl rfl rfl rfl ?_
          refine o_skip rfl rfl rfl rfl rfl rfl ?_
          refine o_skip rfl rfl rfl rfl rfl rfl ?_
          refine o_skip rfl rfl rfl rfl rfl rfl ?_
          refine o_skip rfl rfl rfl rfl rfl rfl ?_
          refine o_pk (.t (.d (.lit (.bool true)))) (b := true) rfl (g0 rfl) rfl rfl rfl rfl rfl ?_
          refine o_nil ?_
          repeat (first | refine then_normal ?_ | refine then_exit ?_ | refine then_ret ?_ | refine block_normal ?_ | refine block_ret ?_ | refine block_exit ?_ | refine block_pass rfl ?_)
          refine c_t rfl rfl ?_
          refine c_seq ?_
          refine c_region ?_
          refine o_s (.t (.d (.lit (.bool false)))) (g0 rfl) rfl rfl rfl ?_
          refine o_nil ?_
          repeat (first | refine then_normal ?_ | refine then_exit ?_ | refine then_ret ?_ | refine block_normal ?_ | refine block_ret ?_ | refine block_exit ?_ | refine block_pass rfl ?_)
          refine c_ret ?_
          repeat (first | refine then_normal ?_ | refine then_exit ?_ | refine then_ret ?_ | refine block_normal ?_ | refine block_ret ?_ | refine block_exit ?_ | refine block_pass rfl ?_)
          obtain rfl := Option.some.inj h
          exact end0 rfl (.refl _)
        · refine o_s (.ref 2 4) (gy rfl rfl rfl h4) rfl rfl rfl ?_
          refine o_s (.t (.d (.lit (.int .i64 p0.Seq)))) (gy rfl rfl rfl h4) rfl rfl rfl ?_
          refine o_s (.ref 3 4) (gy rfl rfl rfl h4) rfl rfl rfl ?_
          refine o_s (.t (.d (.lit (.int .i64 p1.Seq)))) (gy rfl rfl rfl h4) rfl rfl rfl ?_
          refine o_s (.t (.d (.lit (.bool (p0.Seq != p1.Seq))))) (gy rfl rfl rfl h4) rfl rfl rfl ?_
          refine o_pk (.t (.d (.lit (.bool (p0.Seq != p1.Seq))))) (b := false) h4 (g0 rfl) rfl rfl rfl rfl rfl ?_
          refine o_s (.t (.d (.lit (.bool (p0.Seq != p1.Seq))))) (g0 rfl) rfl rfl rfl ?_
          rcases bif_some h with ⟨h5, h⟩ | ⟨h5, h⟩
          · refine o_skip rfl rfl rfl h5 rfl rfl ?_
            refine o_skip rfl rfl rfl h5 rfl rfl ?_
            refine o_skip rfl rfl rfl h5 rfl rfl ?_
            refine o_skip rfl rfl rfl h5 rfl rfl ?_
            refine o_skip rfl rfl rfl h5 rfl rfl ?_
            refine o_pk (.t (.d (.lit (.bool true)))) (b := true) h5 (g0 rfl) rfl rfl rfl rfl rfl ?_
            refine o_s (.t (.d (.lit (.bool true)))) (g0 rfl) rfl rfl rfl ?_
            refine o_skip rfl rfl rfl rfl rfl rfl ?_
            refine o_skip rfl rfl rfl rfl rfl rfl ?_
            refine o_skip rfl rfl rfl rfl rfl rfl ?_
            refine o_skip rfl rfl rfl rfl rfl rfl ?_
            refine o_skip rfl rfl rfl rfl rfl rfl ?_
            refine o_pk (.t (.d (.lit (.bool true)))) (b := true) rfl (g0 rfl) rfl rfl rfl rfl rfl ?_
            refine o_nil ?_
            repeat (first | refine then_normal ?_ | refine then_exit ?_ | refine then_ret ?_ | refine block_normal ?_ | refine block_ret ?_ | refine block_exit ?_ | refine block_pass rfl ?_)
            refine c_t rfl rfl ?_
            refine c_seq ?_
            refine c_region ?_
            refine o_s (.t (.d (.lit (.bool false)))) (g0 rfl) rfl rfl rfl ?_
            refine o_nil ?_
            repeat (first | refine then_normal ?_ | refine then_exit ?_ | refine then_ret ?_ | refine block_normal ?_ | refine block_ret ?_ | refine block_exit ?_ | refine block_pass rfl ?_)
            refine c_ret ?_
            repeat (first | refine then_normal ?_ | refine then_exit ?_ | refine then_ret ?_ | refine block_normal ?_ | refine block_ret ?_ | refine block_exit ?_ | refine block_pass rfl ?_)
            obtain rfl := Option.some.inj h
            exact end0 rfl (.refl _)
          · refine o_s (.ref 2 6) (gy rfl rfl rfl h5) rfl rfl rfl ?_
            refine o_s (.t (.d (.lit (.bool p0.Gone)))) (gy rfl rfl rfl h5) rfl rfl rfl ?_
            refine o_s (.ref 3 6) (gy rfl rfl rfl h5) rfl rfl rfl ?_
            refine o_s (.t (.d (.lit (.bool p1.Gone)))) (gy rfl rfl rfl h5) rfl rfl rfl ?_
            refine o_s (.t (.d (.lit (.bool (!(p0.Gone == p1.Gone)))))) (gy rfl rfl rfl h5) rfl rfl rfl ?_
            refine o_pk (.t (.d (.lit (.bool (!(p0.Gone == p1.Gone)))))) (b := false) h5 (g0 rfl) rfl rfl rfl rfl rfl ?_
            refine o_s (.t (.d (.lit (.bool (!(p0.Gone == p1.Gone)))))) (g0 rfl) rfl rfl rfl ?_
            rcases bif_some h with ⟨h6, h⟩ | ⟨h6, h⟩
            · refine o_skip rfl rfl rfl h6 rfl rfl ?_
              refine o_skip rfl rfl rfl h6 rfl rfl ?_
              refine o_skip rfl rfl rfl h6 rfl rfl ?_
              refine o_skip rfl rfl rfl h6 rfl rfl ?_
              refine o_skip rfl rfl rfl h6 rfl rfl ?_
              refine o_pk (.t (.d (.lit (.bool true)))) (b := true) h6 (g0 rfl) rfl rfl rfl rfl rfl ?_
              refine o_nil ?_
              repeat (first | refine then_normal ?_ | refine then_exit ?_ | refine then_ret ?_ | refine block_normal ?_ | refine block_ret ?_ | refine block_exit ?_ | refine block_pass rfl ?_)
              refine c_t rfl rfl ?_
              refine c_seq ?_
              refine c_region ?_
              refine o_s (.t (.d (.lit (.bool false)))) (g0 rfl) rfl rfl rfl ?_
              refine o_nil ?_
              repeat (first | refine then_normal ?_ | refine then_exit ?_ | refine then_ret ?_ | refine block_normal ?_ | refine block_ret ?_ | refine block_exit ?_ | refine block_pass rfl ?_)
              refine c_ret ?_
              repeat (first | refine then_normal ?_ | refine then_exit ?_ | refine then_ret ?_ | refine block_normal ?_ | refine block_ret ?_ | refine block_exit ?_ | refine block_pass rfl ?_)
              obtain rfl := Option.some.inj h
              exact end0 rfl (.refl _)
            · refine o_s (.ref 2 9) (gy rfl rfl rfl h6) rfl rfl rfl ?_
              refine o_s (.t (.d (.lit (.string ⟨⟨p0.By⟩⟩)))) (gy rfl rfl rfl h6) rfl rfl rfl ?_
              refine o_s (.ref 3 9) (gy rfl rfl rfl h6) rfl rfl rfl ?_
              refine o_s (.t (.d (.lit (.string ⟨⟨p1.By⟩⟩)))) (gy rfl rfl rfl h6) rfl rfl rfl ?_
              refine o_c (gy rfl rfl rfl h6) rfl rfl rfl (congrArg (fun z => A.t (.d (.lit (.bool (!z))))) (str_beqL _ _)) trivial ?_
              refine o_pk (.t (.d (.lit (.bool (!(p0.By == p1.By)))))) (b := false) h6 (g0 rfl) rfl rfl rfl rfl rfl ?_
              refine o_nil ?_
              repeat (first | refine then_normal ?_ | refine then_exit ?_ | refine then_ret ?_ | refine block_normal ?_ | refine block_ret ?_ | refine block_exit ?_ | refine block_pass rfl ?_)
              rcases bif_some h with ⟨h7, h⟩ | ⟨h7, h⟩
              · refine c_t h7 rfl ?_
                refine c_seq ?_
                refine c_region ?_
                refine o_s (.t (.d (.lit (.bool false)))) (g0 rfl) rfl rfl rfl ?_
                refine o_nil ?_
                repeat (first | refine then_normal ?_ | refine then_exit ?_ | refine then_ret ?_ | refine block_normal ?_ | refine block_ret ?_ | refine block_exit ?_ | refine block_pass rfl ?_)
                refine c_ret ?_
                repeat (first | refine then_normal ?_ | refine then_exit ?_ | refine then_ret ?_ | refine block_normal ?_ | refine block_ret ?_ | refine block_exit ?_ | refine block_pass rfl ?_)
                obtain rfl := Option.some.inj h
                exact end0 rfl (.refl _)
              · refine c_f h7 rfl ?_
                refine c_skip ?_
                repeat (first | refine then_normal ?_ | refine then_exit ?_ | refine then_ret ?_ | refine block_normal ?_ | refine block_ret ?_ | refine block_exit ?_ | refine block_pass rfl ?_)
                refine c_seq ?_
                refine c_region ?_
                refine o_s (.ref 2 5) (g0 rfl) rfl rfl rfl ?_
                refine o_s (.t (.d (.seq 1 (bytesD p0.Digest)))) (g0 rfl) rfl rfl rfl ?_
                refine o_s (.ref 3 5) (g0 rfl) rfl rfl rfl ?_
                refine o_s (.t (.d (.seq 1 (bytesD p1.Digest)))) (g0 rfl) rfl rfl rfl ?_
                obtain ⟨x8, h9, h⟩ := bind_some h
                refine o_ca (fc_R01_Same _ _ _ h9) (g0 rfl) rfl rfl rfl rfl rfl rfl rfl (.cons (.refl _) (.cons (.refl _) .nil)) rfl rfl ?_
                refine o_s (.t (.d (.lit (.bool x8)))) (g0 rfl) rfl rfl rfl ?_
                rcases bif_some h with ⟨h10, h⟩ | ⟨h10, h⟩
                · refine o_s (.ref 2 7) (gy rfl rfl rfl h10) rfl rfl rfl ?_
                  refine o_s (.t (.d (.seq 1 (bytesD p0.Lock)))) (gy rfl rfl rfl h10) rfl rfl rfl ?_
                  refine o_s (.ref 3 7) (gy rfl rfl rfl h10) rfl rfl rfl ?_
                  refine o_s (.t (.d (.seq 1 (bytesD p1.Lock)))) (gy rfl rfl rfl h10) rfl rfl rfl ?_
                  obtain ⟨x11, h12, h⟩ := bind_some h
                  refine o_ca (fc_R01_Same _ _ _ h12) (gy rfl rfl rfl h10) rfl rfl rfl rfl rfl rfl rfl (.cons (.refl _) (.cons (.refl _) .nil)) rfl rfl ?_
                  refine o_pk (.t (.d (.lit (.bool x11)))) (b := true) h10 (g0 rfl) rfl rfl rfl rfl rfl ?_
                  refine o_s (.t (.d (.lit (.bool x11)))) (g0 rfl) rfl rfl rfl ?_
                  rcases bif_some h with ⟨h13, h⟩ | ⟨h13, h⟩
                  · refine o_s (.ref 2 8) (gy rfl rfl rfl h13) rfl rfl rfl ?_
                    refine o_s (.t (.d (.seq 1 (bytesD p0.Body)))) (gy rfl rfl rfl h13) rfl rfl rfl ?_
                    refine o_s (.ref 3 8) (gy rfl rfl rfl h13) rfl rfl rfl ?_
                    refine o_s (.t (.d (.seq 1 (bytesD p1.Body)))) (gy rfl rfl rfl h13) rfl rfl rfl ?_
                    obtain ⟨x14, h15, h⟩ := bind_some h
                    refine o_ca (fc_R01_Same _ _ _ h15) (gy rfl rfl rfl h13) rfl rfl rfl rfl rfl rfl rfl (.cons (.refl _) (.cons (.refl _) .nil)) rfl rfl ?_
                    refine o_pk (.t (.d (.lit (.bool x14)))) (b := true) h13 (g0 rfl) rfl rfl rfl rfl rfl ?_
                    refine o_s (.t (.d (.lit (.bool x14)))) (g0 rfl) rfl rfl rfl ?_
                    refine o_nil ?_
                    repeat (first | refine then_normal ?_ | refine then_exit ?_ | refine then_ret ?_ | refine block_normal ?_ | refine block_ret ?_ | refine block_exit ?_ | refine block_pass rfl ?_)
                    refine c_ret ?_
                    repeat (first | refine then_normal ?_ | refine then_exit ?_ | refine then_ret ?_ | refine block_normal ?_ | refine block_ret ?_ | refine block_exit ?_ | refine block_pass rfl ?_)
                    obtain rfl := Option.some.inj h
                    exact end0 rfl (.refl _)
                  · refine o_skip rfl rfl rfl h13 rfl rfl ?_
                    refine o_skip rfl rfl rfl h13 rfl rfl ?_
                    refine o_skip rfl rfl rfl h13 rfl rfl ?_
                    refine o_skip rfl rfl rfl h13 rfl rfl ?_
                    refine o_skip rfl rfl rfl h13 rfl rfl ?_
                    refine o_pk (.t (.d (.lit (.bool false)))) (b := false) h13 (g0 rfl) rfl rfl rfl rfl rfl ?_
                    refine o_s (.t (.d (.lit (.bool false)))) (g0 rfl) rfl rfl rfl ?_
                    refine o_nil ?_
                    repeat (first | refine then_normal ?_ | refine then_exit ?_ | refine then_ret ?_ | refine block_normal ?_ | refine block_ret ?_ | refine block_exit ?_ | refine block_pass rfl ?_)
                    refine c_ret ?_
                    repeat (first | refine then_normal ?_ | refine then_exit ?_ | refine then_ret ?_ | refine block_normal ?_ | refine block_ret ?_ | refine block_exit ?_ | refine block_pass rfl ?_)
                    obtain rfl := Option.some.inj h
                    exact end0 rfl (.refl _)
                · refine o_skip rfl rfl rfl h10 rfl rfl ?_
                  refine o_skip rfl rfl rfl h10 rfl rfl ?_
                  refine o_skip rfl rfl rfl h10 rfl rfl ?_
                  refine o_skip rfl rfl rfl h10 rfl rfl ?_
                  refine o_skip rfl rfl rfl h10 rfl rfl ?_
                  refine o_pk (.t (.d (.lit (.bool false)))) (b := false) h10 (g0 rfl) rfl rfl rfl rfl rfl ?_
                  refine o_s (.t (.d (.lit (.bool false)))) (g0 rfl) rfl rfl rfl ?_
                  refine o_skip rfl rfl rfl rfl rfl rfl ?_
                  refine o_skip rfl rfl rfl rfl rfl rfl ?_
                  refine o_skip rfl rfl rfl rfl rfl rfl ?_
                  refine o_skip rfl rfl rfl rfl rfl rfl ?_
                  refine o_skip rfl rfl rfl rfl rfl rfl ?_
                  refine o_pk (.t (.d (.lit (.bool false)))) (b := false) rfl (g0 rfl) rfl rfl rfl rfl rfl ?_
                  refine o_s (.t (.d (.lit (.bool false)))) (g0 rfl) rfl rfl rfl ?_
                  refine o_nil ?_
                  repeat (first | refine then_normal ?_ | refine then_exit ?_ | refine then_ret ?_ | refine block_normal ?_ | refine block_ret ?_ | refine block_exit ?_ | refine block_pass rfl ?_)
                  refine c_ret ?_
                  repeat (first | refine then_normal ?_ | refine then_exit ?_ | refine then_ret ?_ | refine block_normal ?_ | refine block_ret ?_ | refine block_exit ?_ | refine block_pass rfl ?_)
                  obtain rfl := Option.some.inj h
                  exact end0 rfl (.refl _)

theorem fc_R35_ReadVersion (p0 : (List UInt8)) (r : (S_api_VersionRecord × Int)) (h : m_R35_ReadVersion p0 = some r) : FC Tryd.prog 25 [.t (.d (.seq 1 (bytesD p0)))] [] (.tup [.agg [.lit (.string ⟨⟨r.1.Folder⟩⟩), .lit (.string ⟨⟨r.1.Item⟩⟩), .lit (.int .i64 r.1.Number), .lit (.int .i64 r.1.Epoch), .lit (.int .i64 r.1.Seq), .seq 1 (bytesD r.1.Digest), .lit (.bool r.1.Gone), .seq 1 (bytesD r.1.Lock), .seq 1 (bytesD r.1.Body), .lit (.string ⟨⟨r.1.By⟩⟩)], .d (.lit (.int .i64 r.2))]) := by
  refine fc_mk (rs := [.cell 2 46, .tmp 3]) (n := 81) Tryd.func25 rfl rfl (Nat.le_of_ble_eq_true rfl) rfl (pins := []) rfl (L := [(0, .t (.d (.seq 1 (bytesD p0))))]) rfl ?_
  refine c_seq ?_
  refine c_region ?_
  refine o_s (.box [.d (.lit (.string ⟨⟨[]⟩⟩)), .d (.lit (.string ⟨⟨[]⟩⟩)), .d (.lit (.int .i64 0)), .d (.lit (.int .i64 0)), .d (.lit (.int .i64 0)), .d (.lit (.slice none 0 0)), .d (.lit (.bool false)), .d (.lit (.slice none 0 0)), .d (.lit (.slice none 0 0)), .d (.lit (.string ⟨⟨[]⟩⟩))]) (g0 rfl) rfl rfl rfl ?_
  refine o_s (.t (.d (.lit (.int .i64 0)))) (g0 rfl) rfl rfl rfl ?_
  refine o_nil ?_
  repeat (first | refine then_normal ?_ | refine then_exit ?_ | refine then_ret ?_ | refine block_normal ?_ | refine block_ret ?_ | refine block_exit ?_ | refine block_pass rfl ?_)
  refine c_seq ?_
  refine c_region ?_
  refine o_s (.t (.d (.seq 1 (bytesD p0)))) (g0 rfl) rfl rfl rfl ?_
  obtain ⟨x1, h2, h⟩ := bind_some h
  refine o_ca (fc_R02_Decode _ _ h2) (g0 rfl) rfl rfl rfl rfl rfl rfl rfl (.cons (.refl _) .nil) rfl rfl ?_
  refine o_s (.tup [.agg [.lit (.int .i64 x1.1.k), .lit (.int .i64 x1.1.n), .seq 1 (bytesD x1.1.b), .seq 4 (List.map V.cells x1.1.l)], .d (.lit (.int .i64 x1.2))]) (g0 rfl) rfl rfl rfl ?_
  refine o_s (.t (.agg [.lit (.int .i64 x1.1.k), .lit (.int .i64 x1.1.n), .seq 1 (bytesD x1.1.b), .seq 4 (List.map V.cells x1.1.l)])) (g0 rfl) rfl rfl rfl ?_
  refine o_s (.t (.d (.lit (.int .i64 x1.2)))) (g0 rfl) rfl rfl rfl ?_
  refine o_s (.box [.d (.lit (.int .i64 0)), .d (.lit (.int .i64 0)), .d (.lit (.slice none 0 0)), .d (.lit (.slice none 0 0))]) (g0 rfl) rfl rfl rfl ?_
  refine o_st (.box [.d (.lit (.int .i64 x1.1.k)), .d (.lit (.int .i64 x1.1.n)), .d (.seq 1 (bytesD x1.1.b)), .d (.seq 4 (List.map V.cells x1.1.l))]) (g0 rfl) rfl rfl rfl ?_
  refine o_s (.t (.d (.lit (.int .i64 x1.2)))) (g0 rfl) rfl rfl rfl ?_
  refine o_nil ?_
  repeat (first | refine then_normal ?_ | refine then_exit ?_ | refine then_ret ?_ | refine block_normal ?_ | refine block_ret ?_ | refine block_exit ?_ | refine block_pass rfl ?_)
  refine c_seq ?_
  refine c_seq ?_
  refine c_region ?_
  refine o_s (.t (.d (.lit (.int .i64 x1.2)))) (g0 rfl) rfl rfl rfl ?_
  refine o_s (.t (.d (.lit (.bool (x1.2 != 0))))) (g0 rfl) rfl rfl rfl ?_
  refine o_nil ?_
  repeat (first | refine then_normal ?_ | refine then_exit ?_ | refine then_ret ?_ | refine block_normal ?_ | refine block_ret ?_ | refine block_exit ?_ | refine block_pass rfl ?_)
  rcases bif_some h with ⟨h3, h⟩ | ⟨h3, h⟩
  · refine c_t h3 rfl ?_
    refine c_seq ?_
    refine c_region ?_
    refine o_s (.t (.agg [.lit (.string ⟨⟨[]⟩⟩), .lit (.string ⟨⟨[]⟩⟩), .lit (.int .i64 0), .lit (.int .i64 0), .lit (.int .i64 0), .lit (.slice none 0 0), .lit (.bool false), .lit (.slice none 0 0), .lit (.slice none 0 0), .lit (.string ⟨⟨[]⟩⟩)])) (g0 rfl) rfl rfl (by kernel_rfl) ?_
    refine o_s (.t (.d (.lit (.int .i64 x1.2)))) (g0 rfl) rfl rfl rfl ?_
    refine o_st (.box [.d (.lit (.string ⟨⟨[]⟩⟩)), .d (.lit (.string ⟨⟨[]⟩⟩)), .d (.lit (.int .i64 0)), .d (.lit (.int .i64 0)), .d (.lit (.int .i64 0)), .d (.lit (.slice none 0 0)), .d (.lit (.bool false)), .d (.lit (.slice none 0 0)), .d (.lit (.slice none 0 0)), .d (.lit (.string ⟨⟨[]⟩⟩))]) (g0 rfl) rfl rfl rfl ?_
    refine o_s (.t (.d (.lit (.int .i64 x1.2)))) (g0 rfl) rfl rfl rfl ?_
    refine o_nil ?_
    repeat (first | refine then_normal ?_ | refine then_exit ?_ | refine then_ret ?_ | refine block_normal ?_ | refine block_ret ?_ | refine block_exit ?_ | refine block_pass rfl ?_)
    refine c_ret ?_
    repeat (first | refine then_normal ?_ | refine then_exit ?_ | refine then_ret ?_ | refine block_normal ?_ | refine block_ret ?_ | refine block_exit ?_ | refine block_pass rfl ?_)
    obtain rfl := Option.some.inj h
    exact end0 rfl (.tup (.cons (.agg (.cons (.refl _) (.cons (.refl _) (.cons (.refl _) (.cons (.refl _) (.cons (.refl _) (.cons (.nil _) (.cons (.refl _) (.cons (.nil _) (.cons (.nil _) (.cons (.refl _) .nil))))))))))) (.cons (.refl _) .nil)))
  · refine c_f h3 rfl ?_
    refine c_skip ?_
    repeat (first | refine then_normal ?_ | refine then_exit ?_ | refine then_ret ?_ | refine block_normal ?_ | refine block_ret ?_ | refine block_exit ?_ | refine block_pass rfl ?_)
    refine c_seq ?_
    refine c_seq ?_
    refine c_region ?_
    refine o_s (.t (.agg [.lit (.int .i64 x1.1.k), .lit (.int .i64 x1.1.n), .seq 1 (bytesD x1.1.b), .seq 4 (List.map V.cells x1.1.l)])) (g0 rfl) rfl rfl rfl ?_
    refine o_s (.t (.own 3 1 (List.map cI64 [2, 2, 2, 1, 1, 1, 2, 1, 2, 2, 2]))) (g0 rfl) rfl rfl rfl ?_
    obtain ⟨x4, h5, h⟩ := bind_some h
    refine o_ca (fc_R28_Kinds _ _ _ h5) (g0 rfl) rfl rfl rfl rfl rfl rfl rfl (.cons (.refl _) (.cons (.refl _) .nil)) rfl rfl ?_
    refine o_s (.t (.d (.lit (.bool (!x4))))) (g0 rfl) rfl rfl rfl ?_
    refine o_nil ?_
    repeat (first | refine then_normal ?_ | refine then_exit ?_ | refine then_ret ?_ | refine block_normal ?_ | refine block_ret ?_ | refine block_exit ?_ | refine block_pass rfl ?_)
    rcases bif_some h with ⟨h6, h⟩ | ⟨h6, h⟩
    · refine c_t h6 rfl ?_
      refine c_seq ?_
      refine c_region ?_
      refine o_s (.t (.agg [.lit (.string ⟨⟨[]⟩⟩), .lit (.string ⟨⟨[]⟩⟩), .lit (.int .i64 0), .lit (.int .i64 0), .lit (.int .i64 0), .lit (.slice none 0 0), .lit (.bool false), .lit (.slice none 0 0), .lit (.slice none 0 0), .lit (.string ⟨⟨[]⟩⟩)])) (g0 rfl) rfl rfl (by kernel_rfl) ?_
      refine o_st (.box [.d (.lit (.string ⟨⟨[]⟩⟩)), .d (.lit (.string ⟨⟨[]⟩⟩)), .d (.lit (.int .i64 0)), .d (.lit (.int .i64 0)), .d (.lit (.int .i64 0)), .d (.lit (.slice none 0 0)), .d (.lit (.bool false)), .d (.lit (.slice none 0 0)), .d (.lit (.slice none 0 0)), .d (.lit (.string ⟨⟨[]⟩⟩))]) (g0 rfl) rfl rfl rfl ?_
      refine o_s (.t (.d (.lit (.int .i64 11)))) (g0 rfl) rfl rfl rfl ?_
      refine o_nil ?_
      repeat (first | refine then_normal ?_ | refine then_exit ?_ | refine then_ret ?_ | refine block_normal ?_ | refine block_ret ?_ | refine block_exit ?_ | refine block_pass rfl ?_)
      refine c_ret ?_
      repeat (first | refine then_normal ?_ | refine then_exit ?_ | refine then_ret ?_ | refine block_normal ?_ | refine block_ret ?_ | refine block_exit ?_ | refine block_pass rfl ?_)
      obtain rfl := Option.some.inj h
      exact end0 rfl (.tup (.cons (.agg (.cons (.refl _) (.cons (.refl _) (.cons (.refl _) (.cons (.refl _) (.cons (.refl _) (.cons (.nil _) (.cons (.refl _) (.cons (.nil _) (.cons (.nil _) (.cons (.refl _) .nil))))))))))) (.cons (.refl _) .nil)))
    · refine c_f h6 rfl ?_
      refine c_skip ?_
      repeat (first | refine then_normal ?_ | refine then_exit ?_ | refine then_ret ?_ | refine block_normal ?_ | refine block_ret ?_ | refine block_exit ?_ | refine block_pass rfl ?_)
      refine c_seq ?_
      refine c_region ?_
      refine o_s (.ref 4 3) (g0 rfl) rfl rfl rfl ?_
      refine o_s (.t (.d (.seq 4 (List.map V.cells x1.1.l)))) (g0 rfl) rfl rfl rfl ?_
      refine o_s (.t (.d (.seq 4 (List.map V.cells x1.1.l)))) (g0 rfl) rfl rfl rfl ?_
      refine o_nil ?_
      repeat (first | refine then_normal ?_ | refine then_exit ?_ | refine then_ret ?_ | refine block_normal ?_ | refine block_ret ?_ | refine block_exit ?_ | refine block_pass rfl ?_)
      refine c_seq ?_
      refine c_draw mixed (by kernel_rfl) ?_
      refine d_s (.t (.d (.seq 4 (List.map V.cells x1.1.l)))) rfl (dg0 rfl) rfl rfl rfl rfl ?_
      obtain ⟨x7, h8, h⟩ := bind_some h
      refine d_c rfl (dg0 rfl) rfl rfl rfl rfl (idxE' V.cells_eq h8) (idxC h8) ?_
      refine d_s (.imm [.seq 1 (bytesD x7.b), .seq 4 (List.map V.cells x7.l)]) rfl (dg0 rfl) rfl rfl rfl rfl ?_
      refine d_s (.t (.d (.seq 1 (bytesD x7.b)))) rfl (dg0 rfl) rfl rfl rfl rfl ?_
      refine d_c rfl (dg0 rfl) rfl rfl rfl rfl (strE _) (isB_bytes _) ?_
      refine d_s (.t (.d (.seq 4 (List.map V.cells x1.1.l)))) rfl (dg0 rfl) rfl rfl rfl rfl ?_
      obtain ⟨x9, h10, h⟩ := bind_some h
      refine d_c rfl (dg0 rfl) rfl rfl rfl rfl (idxE' V.cells_eq h10) (idxC h10) ?_
      refine d_s (.imm [.seq 1 (bytesD x9.b), .seq 4 (List.map V.cells x9.l)]) rfl (dg0 rfl) rfl rfl rfl rfl ?_
      refine d_s (.t (.d (.seq 1 (bytesD x9.b)))) rfl (dg0 rfl) rfl rfl rfl rfl ?_
      refine d_c rfl (dg0 rfl) rfl rfl rfl rfl (strE _) (isB_bytes _) ?_
      refine d_s (.t (.d (.seq 4 (List.map V.cells x1.1.l)))) rfl (dg0 rfl) rfl rfl rfl rfl ?_
      obtain ⟨x11, h12, h⟩ := bind_some h
      refine d_c rfl (dg0 rfl) rfl rfl rfl rfl (idxE' V.cells_eq h12) (idxC h12) ?_
      refine d_s (.imm [.lit (.int .i64 x11.n), .seq 1 (bytesD x11.b), .seq 4 (List.map V.cells x11.l)]) rfl (dg0 rfl) rfl rfl rfl rfl ?_
      refine d_s (.t (.d (.lit (.int .i64 x11.n)))) rfl (dg0 rfl) rfl rfl rfl rfl ?_
      refine d_s (.t (.d (.seq 4 (List.map V.cells x1.1.l)))) rfl (dg0 rfl) rfl rfl rfl rfl ?_
      obtain ⟨x13, h14, h⟩ := bind_some h
      refine d_c rfl (dg0 rfl) rfl rfl rfl rfl (idxE' V.cells_eq h14) (idxC h14) ?_
      refine d_s (.imm [.lit (.int .i64 x13.n), .seq 1 (bytesD x13.b), .seq 4 (List.map V.cells x13.l)]) rfl (dg0 rfl) rfl rfl rfl rfl ?_
      refine d_s (.t (.d (.lit (.int .i64 x13.n)))) rfl (dg0 rfl) rfl rfl rfl rfl ?_
      refine d_s (.t (.d (.seq 4 (List.map V.cells x1.1.l)))) rfl (dg0 rfl) rfl rfl rfl rfl ?_
      obtain ⟨x15, h16, h⟩ := bind_some h
      refine d_c rfl (dg0 rfl) rfl rfl rfl rfl (idxE' V.cells_eq h16) (idxC h16) ?_
      refine d_s (.imm [.lit (.int .i64 x15.n), .seq 1 (bytesD x15.b), .seq 4 (List.map V.cells x15.l)]) rfl (dg0 rfl) rfl rfl rfl rfl ?_
      refine d_s (.t (.d (.lit (.int .i64 x15.n)))) rfl (dg0 rfl) rfl rfl rfl rfl ?_
      refine d_s (.t (.d (.seq 4 (List.map V.cells x1.1.l)))) rfl (dg0 rfl) rfl rfl rfl rfl ?_
      obtain ⟨x17, h18, h⟩ := bind_some h
      refine d_c rfl (dg0 rfl) rfl rfl rfl rfl (idxE' V.cells_eq h18) (idxC h18) ?_
      refine d_s (.imm [.seq 1 (bytesD x17.b), .seq 4 (List.map V.cells x17.l)]) rfl (dg0 rfl) rfl rfl rfl rfl ?_
      refine d_s (.t (.d (.seq 1 (bytesD x17.b)))) rfl (dg0 rfl) rfl rfl rfl rfl ?_
      refine d_s (.t (.d (.seq 4 (List.map V.cells x1.1.l)))) rfl (dg0 rfl) rfl rfl rfl rfl ?_
      obtain ⟨x19, h20, h⟩ := bind_some h
      refine d_c rfl (dg0 rfl) rfl rfl rfl rfl (idxE' V.cells_eq h20) (idxC h20) ?_
      refine d_s (.imm [.lit (.int .i64 x19.n), .seq 1 (bytesD x19.b), .seq 4 (List.map V.cells x19.l)]) rfl (dg0 rfl) rfl rfl rfl rfl ?_
      refine d_s (.t (.d (.lit (.int .i64 x19.n)))) rfl (dg0 rfl) rfl rfl rfl rfl ?_
      refine d_s (.t (.d (.lit (.bool (x19.n == 1))))) rfl (dg0 rfl) rfl rfl rfl rfl ?_
      refine d_s (.t (.d (.seq 4 (List.map V.cells x1.1.l)))) rfl (dg0 rfl) rfl rfl rfl rfl ?_
      obtain ⟨x21, h22, h⟩ := bind_some h
      refine d_c rfl (dg0 rfl) rfl rfl rfl rfl (idxE' V.cells_eq h22) (idxC h22) ?_
      refine d_s (.imm [.seq 1 (bytesD x21.b), .seq 4 (List.map V.cells x21.l)]) rfl (dg0 rfl) rfl rfl rfl rfl ?_
      refine d_s (.t (.d (.seq 1 (bytesD x21.b)))) rfl (dg0 rfl) rfl rfl rfl rfl ?_
      refine d_s (.t (.d (.seq 4 (List.map V.cells x1.1.l)))) rfl (dg0 rfl) rfl rfl rfl rfl ?_
      obtain ⟨x23, h24, h⟩ := bind_some h
      refine d_c rfl (dg0 rfl) rfl rfl rfl rfl (idxE' V.cells_eq h24) (idxC h24) ?_
      refine d_s (.imm [.seq 1 (bytesD x23.b), .seq 4 (List.map V.cells x23.l)]) rfl (dg0 rfl) rfl rfl rfl rfl ?_
      refine d_s (.t (.d (.seq 1 (bytesD x23.b)))) rfl (dg0 rfl) rfl rfl rfl rfl ?_
      refine d_s (.t (.d (.seq 4 (List.map V.cells x1.1.l)))) rfl (dg0 rfl) rfl rfl rfl rfl ?_
      obtain ⟨x25, h26, h⟩ := bind_some h
      refine d_c rfl (dg0 rfl) rfl rfl rfl rfl (idxE' V.cells_eq h26) (idxC h26) ?_
      refine d_s (.imm [.seq 1 (bytesD x25.b), .seq 4 (List.map V.cells x25.l)]) rfl (dg0 rfl) rfl rfl rfl rfl ?_
      refine d_s (.t (.d (.seq 1 (bytesD x25.b)))) rfl (dg0 rfl) rfl rfl rfl rfl ?_
      refine d_c rfl (dg0 rfl) rfl rfl rfl rfl (strE _) (isB_bytes _) ?_
      refine d_s (.t (.agg [.lit (.string ⟨⟨x7.b⟩⟩), .lit (.string ⟨⟨x9.b⟩⟩), .lit (.int .i64 x11.n), .lit (.int .i64 x13.n), .lit (.int .i64 x15.n), .seq 1 (bytesD x17.b), .lit (.bool (x19.n == 1)), .seq 1 (bytesD x21.b), .seq 1 (bytesD x23.b), .lit (.string ⟨⟨x25.b⟩⟩)])) rfl (dg0 rfl) rfl rfl rfl (by kernel_rfl) ?_
      refine d_s (.box [.d (.lit (.string ⟨⟨[]⟩⟩)), .d (.lit (.string ⟨⟨[]⟩⟩)), .d (.lit (.int .i64 0)), .d (.lit (.int .i64 0)), .d (.lit (.int .i64 0)), .d (.lit (.slice none 0 0)), .d (.lit (.bool false)), .d (.lit (.slice none 0 0)), .d (.lit (.slice none 0 0)), .d (.lit (.string ⟨⟨[]⟩⟩))]) rfl (dg0 rfl) rfl rfl rfl rfl ?_
      refine d_st (.box [.d (.lit (.string ⟨⟨x7.b⟩⟩)), .d (.lit (.string ⟨⟨x9.b⟩⟩)), .d (.lit (.int .i64 x11.n)), .d (.lit (.int .i64 x13.n)), .d (.lit (.int .i64 x15.n)), .d (.seq 1 (bytesD x17.b)), .d (.lit (.bool (x19.n == 1))), .d (.seq 1 (bytesD x21.b)), .d (.seq 1 (bytesD x23.b)), .d (.lit (.string ⟨⟨x25.b⟩⟩))]) rfl (dg0 rfl) rfl rfl rfl rfl ?_
      refine d_nil (by kernel_rfl) ?_
      repeat (first | refine then_normal ?_ | refine then_exit ?_ | refine then_ret ?_ | refine block_normal ?_ | refine block_ret ?_ | refine block_exit ?_ | refine block_pass rfl ?_)
      refine c_seq ?_
      refine c_seq ?_
      refine c_region ?_
      refine o_s (.t (.agg [.lit (.string ⟨⟨x7.b⟩⟩), .lit (.string ⟨⟨x9.b⟩⟩), .lit (.int .i64 x11.n), .lit (.int .i64 x13.n), .lit (.int .i64 x15.n), .seq 1 (bytesD x17.b), .lit (.bool (x19.n == 1)), .seq 1 (bytesD x21.b), .seq 1 (bytesD x23.b), .lit (.string ⟨⟨x25.b⟩⟩)])) (g0 rfl) rfl rfl rfl ?_
      obtain ⟨x27, h28, h⟩ := bind_some h
      refine o_ca (fc_R35_MayVersion _ _ h28) (g0 rfl) rfl rfl rfl rfl rfl rfl rfl (.cons (.refl _) .nil) rfl rfl ?_
      refine o_s (.t (.d (.lit (.bool (!x27))))) (g0 rfl) rfl rfl rfl ?_
      refine o_s (.t (.d (.lit (.bool (!x27))))) (g0 rfl) rfl rfl rfl ?_
      rcases bif_some h with ⟨h29, h⟩ | ⟨h29, h⟩
      · refine o_skip rfl rfl rfl h29 rfl rfl ?_
        refine o_skip rfl rfl rfl h29 rfl rfl ?_
        refine o_skip rfl rfl rfl h29 rfl rfl ?_
        refine o_skip rfl rfl rfl h29 rfl rfl ?_
        refine o_skip rfl rfl rfl h29 rfl rfl ?_
        refine o_pk (.t (.d (.lit (.bool true)))) (b := true) h29 (g0 rfl) rfl rfl rfl rfl rfl ?_
        refine o_nil ?_
        repeat (first | refine then_normal ?_ | refine then_exit ?_ | refine then_ret ?_ | refine block_normal ?_ | refine block_ret ?_ | refine block_exit ?_ | refine block_pass rfl ?_)
        refine c_t rfl rfl ?_
        refine c_seq ?_
        refine c_region ?_
        refine o_s (.t (.agg [.lit (.string ⟨⟨[]⟩⟩), .lit (.string ⟨⟨[]⟩⟩), .lit (.int .i64 0), .lit (.int .i64 0), .lit (.int .i64 0), .lit (.slice none 0 0), .lit (.bool false), .lit (.slice none 0 0), .lit (.slice none 0 0), .lit (.string ⟨⟨[]⟩⟩)])) (g0 rfl) rfl rfl (by kernel_rfl) ?_
        refine o_st (.box [.d (.lit (.string ⟨⟨[]⟩⟩)), .d (.lit (.string ⟨⟨[]⟩⟩)), .d (.lit (.int .i64 0)), .d (.lit (.int .i64 0)), .d (.lit (.int .i64 0)), .d (.lit (.slice none 0 0)), .d (.lit (.bool false)), .d (.lit (.slice none 0 0)), .d (.lit (.slice none 0 0)), .d (.lit (.string ⟨⟨[]⟩⟩))]) (g0 rfl) rfl rfl rfl ?_
        refine o_s (.t (.d (.lit (.int .i64 11)))) (g0 rfl) rfl rfl rfl ?_
        refine o_nil ?_
        repeat (first | refine then_normal ?_ | refine then_exit ?_ | refine then_ret ?_ | refine block_normal ?_ | refine block_ret ?_ | refine block_exit ?_ | refine block_pass rfl ?_)
        refine c_ret ?_
        repeat (first | refine then_normal ?_ | refine then_exit ?_ | refine then_ret ?_ | refine block_normal ?_ | refine block_ret ?_ | refine block_exit ?_ | refine block_pass rfl ?_)
        obtain rfl := Option.some.inj h
        exact end0 rfl (.tup (.cons (.agg (.cons (.refl _) (.cons (.refl _) (.cons (.refl _) (.cons (.refl _) (.cons (.refl _) (.cons (.nil _) (.cons (.refl _) (.cons (.nil _) (.cons (.nil _) (.cons (.refl _) .nil))))))))))) (.cons (.refl _) .nil)))
      · refine o_s (.t (.agg [.lit (.string ⟨⟨x7.b⟩⟩), .lit (.string ⟨⟨x9.b⟩⟩), .lit (.int .i64 x11.n), .lit (.int .i64 x13.n), .lit (.int .i64 x15.n), .seq 1 (bytesD x17.b), .lit (.bool (x19.n == 1)), .seq 1 (bytesD x21.b), .seq 1 (bytesD x23.b), .lit (.string ⟨⟨x25.b⟩⟩)])) (gy rfl rfl rfl h29) rfl rfl rfl ?_
        obtain ⟨x30, h31, h⟩ := bind_some h
        refine o_ca (fc_R35_VersionText _ _ h31) (gy rfl rfl rfl h29) rfl rfl rfl rfl rfl rfl rfl (.cons (.refl _) .nil) rfl rfl ?_
        refine o_s (.t (.d (.seq 1 (bytesD p0)))) (gy rfl rfl rfl h29) rfl rfl rfl ?_
        obtain ⟨x32, h33, h⟩ := bind_some h
        refine o_ca (fc_R01_Same _ _ _ h33) (gy rfl rfl rfl h29) rfl rfl rfl rfl rfl rfl rfl (.cons (.refl _) (.cons (.refl _) .nil)) rfl rfl ?_
        refine o_s (.t (.d (.lit (.bool (!x32))))) (gy rfl rfl rfl h29) rfl rfl rfl ?_
        refine o_pk (.t (.d (.lit (.bool (!x32))))) (b := false) h29 (g0 rfl) rfl rfl rfl rfl rfl ?_
        refine o_nil ?_
        repeat (first | refine then_normal ?_ | refine then_exit ?_ | refine then_ret ?_ | refine block_normal ?_ | refine block_ret ?_ | refine block_exit ?_ | refine block_pass rfl ?_)
        rcases bif_some h with ⟨h34, h⟩ | ⟨h34, h⟩
        · refine c_t h34 rfl ?_
          refine c_seq ?_
          refine c_region ?_
          refine o_s (.t (.agg [.lit (.string ⟨⟨[]⟩⟩), .lit (.string ⟨⟨[]⟩⟩), .lit (.int .i64 0), .lit (.int .i64 0), .lit (.int .i64 0), .lit (.slice none 0 0), .lit (.bool false), .lit (.slice none 0 0), .lit (.slice none 0 0), .lit (.string ⟨⟨[]⟩⟩)])) (g0 rfl) rfl rfl (by kernel_rfl) ?_
          refine o_st (.box [.d (.lit (.string ⟨⟨[]⟩⟩)), .d (.lit (.string ⟨⟨[]⟩⟩)), .d (.lit (.int .i64 0)), .d (.lit (.int .i64 0)), .d (.lit (.int .i64 0)), .d (.lit (.slice none 0 0)), .d (.lit (.bool false)), .d (.lit (.slice none 0 0)), .d (.lit (.slice none 0 0)), .d (.lit (.string ⟨⟨[]⟩⟩))]) (g0 rfl) rfl rfl rfl ?_
          refine o_s (.t (.d (.lit (.int .i64 11)))) (g0 rfl) rfl rfl rfl ?_
          refine o_nil ?_
          repeat (first | refine then_normal ?_ | refine then_exit ?_ | refine then_ret ?_ | refine block_normal ?_ | refine block_ret ?_ | refine block_exit ?_ | refine block_pass rfl ?_)
          refine c_ret ?_
          repeat (first | refine then_normal ?_ | refine then_exit ?_ | refine then_ret ?_ | refine block_normal ?_ | refine block_ret ?_ | refine block_exit ?_ | refine block_pass rfl ?_)
          obtain rfl := Option.some.inj h
          exact end0 rfl (.tup (.cons (.agg (.cons (.refl _) (.cons (.refl _) (.cons (.refl _) (.cons (.refl _) (.cons (.refl _) (.cons (.nil _) (.cons (.refl _) (.cons (.nil _) (.cons (.nil _) (.cons (.refl _) .nil))))))))))) (.cons (.refl _) .nil)))
        · refine c_f h34 rfl ?_
          refine c_skip ?_
          repeat (first | refine then_normal ?_ | refine then_exit ?_ | refine then_ret ?_ | refine block_normal ?_ | refine block_ret ?_ | refine block_exit ?_ | refine block_pass rfl ?_)
          refine c_seq ?_
          refine c_region ?_
          refine o_s (.t (.agg [.lit (.string ⟨⟨x7.b⟩⟩), .lit (.string ⟨⟨x9.b⟩⟩), .lit (.int .i64 x11.n), .lit (.int .i64 x13.n), .lit (.int .i64 x15.n), .seq 1 (bytesD x17.b), .lit (.bool (x19.n == 1)), .seq 1 (bytesD x21.b), .seq 1 (bytesD x23.b), .lit (.string ⟨⟨x25.b⟩⟩)])) (g0 rfl) rfl rfl rfl ?_
          refine o_st (.box [.d (.lit (.string ⟨⟨x7.b⟩⟩)), .d (.lit (.string ⟨⟨x9.b⟩⟩)), .d (.lit (.int .i64 x11.n)), .d (.lit (.int .i64 x13.n)), .d (.lit (.int .i64 x15.n)), .d (.seq 1 (bytesD x17.b)), .d (.lit (.bool (x19.n == 1))), .d (.seq 1 (bytesD x21.b)), .d (.seq 1 (bytesD x23.b)), .d (.lit (.string ⟨⟨x25.b⟩⟩))]) (g0 rfl) rfl rfl rfl ?_
          refine o_s (.t (.d (.lit (.int .i64 0)))) (g0 rfl) rfl rfl rfl ?_
          refine o_nil ?_
          repeat (first | refine then_normal ?_ | refine then_exit ?_ | refine then_ret ?_ | refine block_normal ?_ | refine block_ret ?_ | refine block_exit ?_ | refine block_pass rfl ?_)
          refine c_ret ?_
          repeat (first | refine then_normal ?_ | refine then_exit ?_ | refine then_ret ?_ | refine block_normal ?_ | refine block_ret ?_ | refine block_exit ?_ | refine block_pass rfl ?_)
          obtain rfl := Option.some.inj h
          exact end0 rfl (.tup (.cons (.refl _) (.cons (.refl _) .nil)))

theorem fc_L35_RecordVersion (p0 : S_api_VersionRecord) (p1 : (List UInt8)) (r : Bool) (h : m_L35_RecordVersion p0 p1 = some r) : FC Tryd.prog 5 [.t (.agg [.lit (.string ⟨⟨p0.Folder⟩⟩), .lit (.string ⟨⟨p0.Item⟩⟩), .lit (.int .i64 p0.Number), .lit (.int .i64 p0.Epoch), .lit (.int .i64 p0.Seq), .seq 1 (bytesD p0.Digest), .lit (.bool p0.Gone), .seq 1 (bytesD p0.Lock), .seq 1 (bytesD p0.Body), .lit (.string ⟨⟨p0.By⟩⟩)]), .t (.d (.seq 1 (bytesD p1)))] [] (.t (.d (.lit (.bool r)))) := by
  refine fc_mk (rs := [.tmp 4]) (n := 127) Tryd.func5 rfl rfl (Nat.le_of_ble_eq_true rfl) rfl (pins := []) rfl (L := [(0, .t (.agg [.lit (.string ⟨⟨p0.Folder⟩⟩), .lit (.string ⟨⟨p0.Item⟩⟩), .lit (.int .i64 p0.Number), .lit (.int .i64 p0.Epoch), .lit (.int .i64 p0.Seq), .seq 1 (bytesD p0.Digest), .lit (.bool p0.Gone), .seq 1 (bytesD p0.Lock), .seq 1 (bytesD p0.Body), .lit (.string ⟨⟨p0.By⟩⟩)])), (1, .t (.d (.seq 1 (bytesD p1))))]) rfl ?_
  refine c_seq ?_
  refine c_region ?_
  refine o_s (.box [.d (.lit (.string ⟨⟨p0.Folder⟩⟩)), .d (.lit (.string ⟨⟨p0.Item⟩⟩)), .d (.lit (.int .i64 p0.Number)), .d (.lit (.int .i64 p0.Epoch)), .d (.lit (.int .i64 p0.Seq)), .d (.seq 1 (bytesD p0.Digest)), .d (.lit (.bool p0.Gone)), .d (.seq 1 (bytesD p0.Lock)), .d (.seq 1 (bytesD p0.Body)), .d (.lit (.string ⟨⟨p0.By⟩⟩))]) (g0 rfl) rfl rfl rfl ?_
  refine o_s (.t (.d (.lit (.bool false)))) (g0 rfl) rfl rfl rfl ?_
  refine o_nil ?_
  repeat (first | refine then_normal ?_ | refine then_exit ?_ | refine then_ret ?_ | refine block_normal ?_ | refine block_ret ?_ | refine block_exit ?_ | refine block_pass rfl ?_)
  refine c_seq ?_
  refine c_seq ?_
  refine c_region ?_
  obtain ⟨x1, h2, h⟩ := bind_some h
  refine o_ca (fc_L35_awake _ h2) (g0 rfl) rfl rfl rfl rfl rfl rfl rfl .nil rfl rfl ?_
  refine o_s (.t (.d (.lit (.bool (!x1))))) (g0 rfl) rfl rfl rfl ?_
  refine o_nil ?_
  repeat (first | refine then_normal ?_ | refine then_exit ?_ | refine then_ret ?_ | refine block_normal ?_ | refine block_ret ?_ | refine block_exit ?_ | refine block_pass rfl ?_)
  rcases bif_some h with ⟨h3, h⟩ | ⟨h3, h⟩
  · refine c_t h3 rfl ?_
    refine c_seq ?_
    refine c_region ?_
    refine o_s (.t (.d (.lit (.bool false)))) (g0 rfl) rfl rfl rfl ?_
    refine o_nil ?_
    repeat (first | refine then_normal ?_ | refine then_exit ?_ | refine then_ret ?_ | refine block_normal ?_ | refine block_ret ?_ | refine block_exit ?_ | refine block_pass rfl ?_)
    refine c_ret ?_
    repeat (first | refine then_normal ?_ | refine then_exit ?_ | refine then_ret ?_ | refine block_normal ?_ | refine block_ret ?_ | refine block_exit ?_ | refine block_pass rfl ?_)
    obtain rfl := Option.some.inj h
    exact end0 rfl (.refl _)
  · refine c_f h3 rfl ?_
    refine c_skip ?_
    repeat (first | refine then_normal ?_ | refine then_exit ?_ | refine then_ret ?_ | refine block_normal ?_ | refine block_ret ?_ | refine block_exit ?_ | refine block_pass rfl ?_)
    refine c_seq ?_
    refine c_seq ?_
    refine c_region ?_
    refine o_s (.ref 2 0) (g0 rfl) rfl rfl rfl ?_
    refine o_s (.t (.d (.lit (.string ⟨⟨p0.Folder⟩⟩)))) (g0 rfl) rfl rfl rfl ?_
    refine o_s (.t (.d (.lit (.int .i64 (p0.Folder.length : Int))))) (g0 rfl) rfl rfl rfl ?_
    refine o_s (.t (.d (.lit (.bool (decide ((p0.Folder.length : Int) > 20)))))) (g0 rfl) rfl rfl rfl ?_
    refine o_s (.t (.d (.lit (.bool (decide ((p0.Folder.length : Int) > 20)))))) (g0 rfl) rfl rfl rfl ?_
    rcases bif_some h with ⟨h4, h⟩ | ⟨h4, h⟩
    · refine o_skip rfl rfl rfl h4 rfl rfl ?_
      refine o_skip rfl rfl rfl h4 rfl rfl ?_
      refine o_skip rfl rfl rfl h4 rfl rfl ?_
      refine o_skip rfl rfl rfl h4 rfl rfl ?_
      refine o_pk (.t (.d (.lit (.bool true)))) (b := true) h4 (g0 rfl) rfl rfl rfl rfl rfl ?_
      refine o_s (.t (.d (.lit (.bool true)))) (g0 rfl) rfl rfl rfl ?_
      refine o_skip rfl rfl rfl rfl rfl rfl ?_
      refine o_skip rfl rfl rfl rfl rfl rfl ?_
      refine o_skip rfl rfl rfl rfl rfl rfl ?_
      refine o_skip rfl rfl rfl rfl rfl rfl ?_
      refine o_pk (.t (.d (.lit (.bool true)))) (b := true) rfl (g0 rfl) rfl rfl rfl rfl rfl ?_
      refine o_s (.t (.d (.lit (.bool true)))) (g0 rfl) rfl rfl rfl ?_
      refine o_skip rfl rfl rfl rfl rfl rfl ?_
      refine o_skip rfl rfl rfl rfl rfl rfl ?_
      refine o_skip rfl rfl rfl rfl rfl rfl ?_
      refine o_skip rfl rfl rfl rfl rfl rfl ?_
      refine o_pk (.t (.d (.lit (.bool true)))) (b := true) rfl (g0 rfl) rfl rfl rfl rfl rfl ?_
      refine o_s (.t (.d (.lit (.bool true)))) (g0 rfl) rfl rfl rfl ?_
      refine o_skip rfl rfl rfl rfl rfl rfl ?_
      refine o_skip rfl rfl rfl rfl rfl rfl ?_
      refine o_skip rfl rfl rfl rfl rfl rfl ?_
      refine o_skip rfl rfl rfl rfl rfl rfl ?_
      refine o_pk (.t (.d (.lit (.bool true)))) (b := true) rfl (g0 rfl) rfl rfl rfl rfl rfl ?_
      refine o_s (.t (.d (.lit (.bool true)))) (g0 rfl) rfl rfl rfl ?_
      refine o_skip rfl rfl rfl rfl rfl rfl ?_
      refine o_skip rfl rfl rfl rfl rfl rfl ?_
      refine o_skip rfl rfl rfl rfl rfl rfl ?_
      refine o_skip rfl rfl rfl rfl rfl rfl ?_
      refine o_pk (.t (.d (.lit (.bool true)))) (b := true) rfl (g0 rfl) rfl rfl rfl rfl rfl ?_
      refine o_s (.t (.d (.lit (.bool true)))) (g0 rfl) rfl rfl rfl ?_
      refine o_skip rfl rfl rfl rfl rfl rfl ?_
      refine o_skip rfl rfl rfl rfl rfl rfl ?_
      refine o_skip rfl rfl rfl rfl rfl rfl ?_
      refine o_pk (.t (.d (.lit (.bool true)))) (b := true) rfl (g0 rfl) rfl rfl rfl rfl rfl ?_
      refine o_nil ?_
      repeat (first | refine then_normal ?_ | refine then_exit ?_ | refine then_ret ?_ | refine block_normal ?_ | refine block_ret ?_ | refine block_exit ?_ | refine block_pass rfl ?_)
      refine c_t rfl rfl ?_
      refine c_seq ?_
      refine c_region ?_
      refine o_s (.t (.d (.lit (.bool true)))) (g0 rfl) rfl rfl rfl ?_
      refine o_nil ?_
      repeat (first | refine then_normal ?_ | refine then_exit ?_ | refine then_ret ?_ | refine block_normal ?_ | refine block_ret ?_ | refine block_exit ?_ | refine block_pass rfl ?_)
      refine c_ret ?_
      repeat (first | refine then_normal ?_ | refine then_exit ?_ | refine then_ret ?_ | refine block_normal ?_ | refine block_ret ?_ | refine block_exit ?_ | refine block_pass rfl ?_)
      obtain rfl := Option.some.inj h
      exact end0 rfl (.refl _)
    · refine o_s (.ref 2 1) (gy rfl rfl rfl h4) rfl rfl rfl ?_
      refine o_s (.t (.d (.lit (.string ⟨⟨p0.Item⟩⟩)))) (gy rfl rfl rfl h4) rfl rfl rfl ?_
      refine o_s (.t (.d (.lit (.int .i64 (p0.Item.length : Int))))) (gy rfl rfl rfl h4) rfl rfl rfl ?_
      refine o_s (.t (.d (.lit (.bool (decide ((p0.Item.length : Int) > 20)))))) (gy rfl rfl rfl h4) rfl rfl rfl ?_
      refine o_pk (.t (.d (.lit (.bool (decide ((p0.Item.length : Int) > 20)))))) (b := false) h4 (g0 rfl) rfl rfl rfl rfl rfl ?_
      refine o_s (.t (.d (.lit (.bool (decide ((p0.Item.length : Int) > 20)))))) (g0 rfl) rfl rfl rfl ?_
      rcases bif_some h with ⟨h5, h⟩ | ⟨h5, h⟩
      · refine o_skip rfl rfl rfl h5 rfl rfl ?_
        refine o_skip rfl rfl rfl h5 rfl rfl ?_
        refine o_skip rfl rfl rfl h5 rfl rfl ?_
        refine o_skip rfl rfl rfl h5 rfl rfl ?_
        refine o_pk (.t (.d (.lit (.bool true)))) (b := true) h5 (g0 rfl) rfl rfl rfl rfl rfl ?_
        refine o_s (.t (.d (.lit (.bool true)))) (g0 rfl) rfl rfl rfl ?_
        refine o_skip rfl rfl rfl rfl rfl rfl ?_
        refine o_skip rfl rfl rfl rfl rfl rfl ?_
        refine o_skip rfl rfl rfl rfl rfl rfl ?_
        refine o_skip rfl rfl rfl rfl rfl rfl ?_
        refine o_pk (.t (.d (.lit (.bool true)))) (b := true) rfl (g0 rfl) rfl rfl rfl rfl rfl ?_
        refine o_s (.t (.d (.lit (.bool true)))) (g0 rfl) rfl rfl rfl ?_
        refine o_skip rfl rfl rfl rfl rfl rfl ?_
        refine o_skip rfl rfl rfl rfl rfl rfl ?_
        refine o_skip rfl rfl rfl rfl rfl rfl ?_
        refine o_skip rfl rfl rfl rfl rfl rfl ?_
        refine o_pk (.t (.d (.lit (.bool true)))) (b := true) rfl (g0 rfl) rfl rfl rfl rfl rfl ?_
        refine o_s (.t (.d (.lit (.bool true)))) (g0 rfl) rfl rfl rfl ?_
        refine o_skip rfl rfl rfl rfl rfl rfl ?_
        refine o_skip rfl rfl rfl rfl rfl rfl ?_
        refine o_skip rfl rfl rfl rfl rfl rfl ?_
        refine o_skip rfl rfl rfl rfl rfl rfl ?_
        refine o_pk (.t (.d (.lit (.bool true)))) (b := true) rfl (g0 rfl) rfl rfl rfl rfl rfl ?_
        refine o_s (.t (.d (.lit (.bool true)))) (g0 rfl) rfl rfl rfl ?_
        refine o_skip rfl rfl rfl rfl rfl rfl ?_
        refine o_skip rfl rfl rfl rfl rfl rfl ?_
        refine o_skip rfl rfl rfl rfl rfl rfl ?_
        refine o_pk (.t (.d (.lit (.bool true)))) (b := true) rfl (g0 rfl) rfl rfl rfl rfl rfl ?_
        refine o_nil ?_
        repeat (first | refine then_normal ?_ | refine then_exit ?_ | refine then_ret ?_ | refine block_normal ?_ | refine block_ret ?_ | refine block_exit ?_ | refine block_pass rfl ?_)
        refine c_t rfl rfl ?_
        refine c_seq ?_
        refine c_region ?_
        refine o_s (.t (.d (.lit (.bool true)))) (g0 rfl) rfl rfl rfl ?_
        refine o_nil ?_
        repeat (first | refine then_normal ?_ | refine then_exit ?_ | refine then_ret ?_ | refine block_normal ?_ | refine block_ret ?_ | refine block_exit ?_ | refine block_pass rfl ?_)
        refine c_ret ?_
        repeat (first | refine then_normal ?_ | refine then_exit ?_ | refine then_ret ?_ | refine block_normal ?_ | refine block_ret ?_ | refine block_exit ?_ | refine block_pass rfl ?_)
        obtain rfl := Option.some.inj h
        exact end0 rfl (.refl _)
      · refine o_s (.ref 2 9) (gy rfl rfl rfl h5) rfl rfl rfl ?_
        refine o_s (.t (.d (.lit (.string ⟨⟨p0.By⟩⟩)))) (gy rfl rfl rfl h5) rfl rfl rfl ?_
        refine o_s (.t (.d (.lit (.int .i64 (p0.By.length : Int))))) (gy rfl rfl rfl h5) rfl rfl rfl ?_
        refine o_s (.t (.d (.lit (.bool (decide ((p0.By.length : Int) > 20)))))) (gy rfl rfl rfl h5) rfl rfl rfl ?_
        refine o_pk (.t (.d (.lit (.bool (decide ((p0.By.length : Int) > 20)))))) (b := false) h5 (g0 rfl) rfl rfl rfl rfl rfl ?_
        refine o_s (.t (.d (.lit (.bool (decide ((p0.By.length : Int) > 20)))))) (g0 rfl) rfl rfl rfl ?_
        rcases bif_some h with ⟨h6, h⟩ | ⟨h6, h⟩
        · refine o_skip rfl rfl rfl h6 rfl rfl ?_
          refine o_skip rfl rfl rfl h6 rfl rfl ?_
          refine o_skip rfl rfl rfl h6 rfl rfl ?_
          refine o_skip rfl rfl rfl h6 rfl rfl ?_
          refine o_pk (.t (.d (.lit (.bool true)))) (b := true) h6 (g0 rfl) rfl rfl rfl rfl rfl ?_
          refine o_s (.t (.d (.lit (.bool true)))) (g0 rfl) rfl rfl rfl ?_
          refine o_skip rfl rfl rfl rfl rfl rfl ?_
          refine o_skip rfl rfl rfl rfl rfl rfl ?_
          refine o_skip rfl rfl rfl rfl rfl rfl ?_
          refine o_skip rfl rfl rfl rfl rfl rfl ?_
          refine o_pk (.t (.d (.lit (.bool true)))) (b := true) rfl (g0 rfl) rfl rfl rfl rfl rfl ?_
          refine o_s (.t (.d (.lit (.bool true)))) (g0 rfl) rfl rfl rfl ?_
          refine o_skip rfl rfl rfl rfl rfl rfl ?_
          refine o_skip rfl rfl rfl rfl rfl rfl ?_
          refine o_skip rfl rfl rfl rfl rfl rfl ?_
          refine o_skip rfl rfl rfl rfl rfl rfl ?_
          refine o_pk (.t (.d (.lit (.bool true)))) (b := true) rfl (g0 rfl) rfl rfl rfl rfl rfl ?_
          refine o_s (.t (.d (.lit (.bool true)))) (g0 rfl) rfl rfl rfl ?_
          refine o_skip rfl rfl rfl rfl rfl rfl ?_
          refine o_skip rfl rfl rfl rfl rfl rfl ?_
          refine o_skip rfl rfl rfl rfl rfl rfl ?_
          refine o_pk (.t (.d (.lit (.bool true)))) (b := true) rfl (g0 rfl) rfl rfl rfl rfl rfl ?_
          refine o_nil ?_
          repeat (first | refine then_normal ?_ | refine then_exit ?_ | refine then_ret ?_ | refine block_normal ?_ | refine block_ret ?_ | refine block_exit ?_ | refine block_pass rfl ?_)
          refine c_t rfl rfl ?_
          refine c_seq ?_
          refine c_region ?_
          refine o_s (.t (.d (.lit (.bool true)))) (g0 rfl) rfl rfl rfl ?_
          refine o_nil ?_
          repeat (first | refine then_normal ?_ | refine then_exit ?_ | refine then_ret ?_ | refine block_normal ?_ | refine block_ret ?_ | refine block_exit ?_ | refine block_pass rfl ?_)
          refine c_ret ?_
          repeat (first | refine then_normal ?_ | refine then_exit ?_ | refine then_ret ?_ | refine block_normal ?_ | refine block_ret ?_ | refine block_exit ?_ | refine block_pass rfl ?_)
          obtain rfl := Option.some.inj h
          exact end0 rfl (.refl _)
        · refine o_s (.ref 2 5) (gy rfl rfl rfl h6) rfl rfl rfl ?_
          refine o_s (.t (.d (.seq 1 (bytesD p0.Digest)))) (gy rfl rfl rfl h6) rfl rfl rfl ?_
          refine o_c (gy rfl rfl rfl h6) rfl rfl rfl (lenE _ _) trivial ?_
          refine o_s (.t (.d (.lit (.bool (decide ((p0.Digest.length : Int) > 100)))))) (gy rfl rfl rfl h6) rfl rfl rfl ?_
          refine o_pk (.t (.d (.lit (.bool (decide ((p0.Digest.length : Int) > 100)))))) (b := false) h6 (g0 rfl) rfl rfl rfl rfl rfl ?_
          refine o_s (.t (.d (.lit (.bool (decide ((p0.Digest.length : Int) > 100)))))) (g0 rfl) rfl rfl rfl ?_
          rcases bif_some h with ⟨h7, h⟩ | ⟨h7, h⟩
          · refine o_skip rfl rfl rfl h7 rfl rfl ?_
            refine o_skip rfl rfl rfl h7 rfl rfl ?_
            refine o_skip rfl rfl rfl h7 rfl rfl ?_
            refine o_skip rfl rfl rfl h7 rfl rfl ?_
            refine o_pk (.t (.d (.lit (.bool true)))) (b := true) h7 (g0 rfl) rfl rfl rfl rfl rfl ?_
            refine o_s (.t (.d (.lit (.bool true)))) (g0 rfl) rfl rfl rfl ?_
            refine o_skip rfl rfl rfl rfl rfl rfl ?_
            refine o_skip rfl rfl rfl rfl rfl rfl ?_
            refine o_skip rfl rfl rfl rfl rfl rfl ?_
            refine o_skip rfl rfl rfl rfl rfl rfl ?_
            refine o_pk (.t (.d (.lit (.bool true)))) (b := true) rfl (g0 rfl) rfl rfl rfl rfl rfl ?_
            refine o_s (.t (.d (.lit (.bool true)))) (g0 rfl) rfl rfl rfl ?_
            refine o_skip rfl rfl rfl rfl rfl rfl ?_
            refine o_skip rfl rfl rfl rfl rfl rfl ?_
            refine o_skip rfl rfl rfl rfl rfl rfl ?_
            refine o_pk (.t (.d (.lit (.bool true)))) (b := true) rfl (g0 rfl) rfl rfl rfl rfl rfl ?_
            refine o_nil ?_
            repeat (first | refine then_normal ?_ | refine then_exit ?_ | refine then_ret ?_ | refine block_normal ?_ | refine block_ret ?_ | refine block_exit ?_ | refine block_pass rfl ?_)
            refine c_t rfl rfl ?_
            refine c_seq ?_
            refine c_region ?_
            refine o_s (.t (.d (.lit (.bool true)))) (g0 rfl) rfl rfl rfl ?_
            refine o_nil ?_
            repeat (first | refine then_normal ?_ | refine then_exit ?_ | refine then_ret ?_ | refine block_normal ?_ | refine block_ret ?_ | refine block_exit ?_ | refine block_pass rfl ?_)
            refine c_ret ?_
            repeat (first | refine then_normal ?_ | refine then_exit ?_ | refine then_ret ?_ | refine block_normal ?_ | refine block_ret ?_ | refine block_exit ?_ | refine block_pass rfl ?_)
            obtain rfl := Option.some.inj h
            exact end0 rfl (.refl _)
          · refine o_s (.ref 2 7) (gy rfl rfl rfl h7) rfl rfl rfl ?_
            refine o_s (.t (.d (.seq 1 (bytesD p0.Lock)))) (gy rfl rfl rfl h7) rfl rfl rfl ?_
            refine o_c (gy rfl rfl rfl h7) rfl rfl rfl (lenE _ _) trivial ?_
            refine o_s (.t (.d (.lit (.bool (decide ((p0.Lock.length : Int) > 200)))))) (gy rfl rfl rfl h7) rfl rfl rfl ?_
            refine o_pk (.t (.d (.lit (.bool (decide ((p0.Lock.length : Int) > 200)))))) (b := false) h7 (g0 rfl) rfl rfl rfl rfl rfl ?_
            refine o_s (.t (.d (.lit (.bool (decide ((p0.Lock.length : Int) > 200)))))) (g0 rfl) rfl rfl rfl ?_
            rcases bif_some h with ⟨h8, h⟩ | ⟨h8, h⟩
            · refine o_skip rfl rfl rfl h8 rfl rfl ?_
              refine o_skip rfl rfl rfl h8 rfl rfl ?_
              refine o_skip rfl rfl rfl h8 rfl rfl ?_
              refine o_skip rfl rfl rfl h8 rfl rfl ?_
              refine o_pk (.t (.d (.lit (.bool true)))) (b := true) h8 (g0 rfl) rfl rfl rfl rfl rfl ?_
              refine o_s (.t (.d (.lit (.bool true)))) (g0 rfl) rfl rfl rfl ?_
              refine o_skip rfl rfl rfl rfl rfl rfl ?_
              refine o_skip rfl rfl rfl rfl rfl rfl ?_
              refine o_skip rfl rfl rfl rfl rfl rfl ?_
              refine o_pk (.t (.d (.lit (.bool true)))) (b := true) rfl (g0 rfl) rfl rfl rfl rfl rfl ?_
              refine o_nil ?_
              repeat (first | refine then_normal ?_ | refine then_exit ?_ | refine then_ret ?_ | refine block_normal ?_ | refine block_ret ?_ | refine block_exit ?_ | refine block_pass rfl ?_)
              refine c_t rfl rfl ?_
              refine c_seq ?_
              refine c_region ?_
              refine o_s (.t (.d (.lit (.bool true)))) (g0 rfl) rfl rfl rfl ?_
              refine o_nil ?_
              repeat (first | refine then_normal ?_ | refine then_exit ?_ | refine then_ret ?_ | refine block_normal ?_ | refine block_ret ?_ | refine block_exit ?_ | refine block_pass rfl ?_)
              refine c_ret ?_
              repeat (first | refine then_normal ?_ | refine then_exit ?_ | refine then_ret ?_ | refine block_normal ?_ | refine block_ret ?_ | refine block_exit ?_ | refine block_pass rfl ?_)
              obtain rfl := Option.some.inj h
              exact end0 rfl (.refl _)
            · refine o_s (.ref 2 8) (gy rfl rfl rfl h8) rfl rfl rfl ?_
              refine o_s (.t (.d (.seq 1 (bytesD p0.Body)))) (gy rfl rfl rfl h8) rfl rfl rfl ?_
              refine o_c (gy rfl rfl rfl h8) rfl rfl rfl (lenE _ _) trivial ?_
              refine o_s (.t (.d (.lit (.bool (decide ((p0.Body.length : Int) > 700)))))) (gy rfl rfl rfl h8) rfl rfl rfl ?_
              refine o_pk (.t (.d (.lit (.bool (decide ((p0.Body.length : Int) > 700)))))) (b := false) h8 (g0 rfl) rfl rfl rfl rfl rfl ?_
              refine o_s (.t (.d (.lit (.bool (decide ((p0.Body.length : Int) > 700)))))) (g0 rfl) rfl rfl rfl ?_
              rcases bif_some h with ⟨h9, h⟩ | ⟨h9, h⟩
              · refine o_skip rfl rfl rfl h9 rfl rfl ?_
                refine o_skip rfl rfl rfl h9 rfl rfl ?_
                refine o_skip rfl rfl rfl h9 rfl rfl ?_
                refine o_pk (.t (.d (.lit (.bool true)))) (b := true) h9 (g0 rfl) rfl rfl rfl rfl rfl ?_
                refine o_nil ?_
                repeat (first | refine then_normal ?_ | refine then_exit ?_ | refine then_ret ?_ | refine block_normal ?_ | refine block_ret ?_ | refine block_exit ?_ | refine block_pass rfl ?_)
                refine c_t rfl rfl ?_
                refine c_seq ?_
                refine c_region ?_
                refine o_s (.t (.d (.lit (.bool true)))) (g0 rfl) rfl rfl rfl ?_
                refine o_nil ?_
                repeat (first | refine then_normal ?_ | refine then_exit ?_ | refine then_ret ?_ | refine block_normal ?_ | refine block_ret ?_ | refine block_exit ?_ | refine block_pass rfl ?_)
                refine c_ret ?_
                repeat (first | refine then_normal ?_ | refine then_exit ?_ | refine then_ret ?_ | refine block_normal ?_ | refine block_ret ?_ | refine block_exit ?_ | refine block_pass rfl ?_)
                obtain rfl := Option.some.inj h
                exact end0 rfl (.refl _)
              · refine o_s (.t (.d (.seq 1 (bytesD p1)))) (gy rfl rfl rfl h9) rfl rfl rfl ?_
                refine o_c (gy rfl rfl rfl h9) rfl rfl rfl (lenE _ _) trivial ?_
                refine o_s (.t (.d (.lit (.bool (decide ((p1.length : Int) > 1500)))))) (gy rfl rfl rfl h9) rfl rfl rfl ?_
                refine o_pk (.t (.d (.lit (.bool (decide ((p1.length : Int) > 1500)))))) (b := false) h9 (g0 rfl) rfl rfl rfl rfl rfl ?_
                refine o_nil ?_
                repeat (first | refine then_normal ?_ | refine then_exit ?_ | refine then_ret ?_ | refine block_normal ?_ | refine block_ret ?_ | refine block_exit ?_ | refine block_pass rfl ?_)
                rcases bif_some h with ⟨h10, h⟩ | ⟨h10, h⟩
                · refine c_t h10 rfl ?_
                  refine c_seq ?_
                  refine c_region ?_
                  refine o_s (.t (.d (.lit (.bool true)))) (g0 rfl) rfl rfl rfl ?_
                  refine o_nil ?_
                  repeat (first | refine then_normal ?_ | refine then_exit ?_ | refine then_ret ?_ | refine block_normal ?_ | refine block_ret ?_ | refine block_exit ?_ | refine block_pass rfl ?_)
                  refine c_ret ?_
                  repeat (first | refine then_normal ?_ | refine then_exit ?_ | refine then_ret ?_ | refine block_normal ?_ | refine block_ret ?_ | refine block_exit ?_ | refine block_pass rfl ?_)
                  obtain rfl := Option.some.inj h
                  exact end0 rfl (.refl _)
                · refine c_f h10 rfl ?_
                  refine c_skip ?_
                  repeat (first | refine then_normal ?_ | refine then_exit ?_ | refine then_ret ?_ | refine block_normal ?_ | refine block_ret ?_ | refine block_exit ?_ | refine block_pass rfl ?_)
                  refine c_seq ?_
                  refine c_region ?_
                  refine o_s (.t (.agg [.lit (.string ⟨⟨p0.Folder⟩⟩), .lit (.string ⟨⟨p0.Item⟩⟩), .lit (.int .i64 p0.Number), .lit (.int .i64 p0.Epoch), .lit (.int .i64 p0.Seq), .seq 1 (bytesD p0.Digest), .lit (.bool p0.Gone), .seq 1 (bytesD p0.Lock), .seq 1 (bytesD p0.Body), .lit (.string ⟨⟨p0.By⟩⟩)])) (g0 rfl) rfl rfl rfl ?_
                  obtain ⟨x11, h12, h⟩ := bind_some h
                  refine o_ca (fc_record_VersionText _ _ h12) (g0 rfl) rfl rfl rfl rfl rfl rfl rfl (.cons (.refl _) .nil) rfl rfl ?_
                  refine o_s (.tup [.d (.seq 1 (bytesD x11.1)), .d (.lit (.int .i64 x11.2))]) (g0 rfl) rfl rfl rfl ?_
                  refine o_s (.t (.d (.seq 1 (bytesD x11.1)))) (g0 rfl) rfl rfl rfl ?_
                  refine o_s (.t (.d (.lit (.int .i64 x11.2)))) (g0 rfl) rfl rfl rfl ?_
                  refine o_s (.t (.d (.seq 1 (bytesD x11.1)))) (g0 rfl) rfl rfl rfl ?_
                  refine o_s (.t (.d (.lit (.int .i64 x11.2)))) (g0 rfl) rfl rfl rfl ?_
                  refine o_nil ?_
                  repeat (first | refine then_normal ?_ | refine then_exit ?_ | refine then_ret ?_ | refine block_normal ?_ | refine block_ret ?_ | refine block_exit ?_ | refine block_pass rfl ?_)
                  refine c_cut (fun (_ : Unit) => [(1, .t (.d (.seq 1 (bytesD p1))))]) (fun (_ : Unit) => m_L35_RecordVersion_j1 p1 = some r) ?_ ?_
                  · refine c_seq ?_
                    refine c_region ?_
                    refine o_s (.t (.agg [.lit (.string ⟨⟨p0.Folder⟩⟩), .lit (.string ⟨⟨p0.Item⟩⟩), .lit (.int .i64 p0.Number), .lit (.int .i64 p0.Epoch), .lit (.int .i64 p0.Seq), .seq 1 (bytesD p0.Digest), .lit (.bool p0.Gone), .seq 1 (bytesD p0.Lock), .seq 1 (bytesD p0.Body), .lit (.string ⟨⟨p0.By⟩⟩)])) (g0 rfl) rfl rfl rfl ?_
                    obtain ⟨x27, h28, h⟩ := bind_some h
                    refine o_ca (fc_R35_MayVersion _ _ h28) (g0 rfl) rfl rfl rfl rfl rfl rfl rfl (.cons (.refl _) .nil) rfl rfl ?_
                    refine o_nil ?_
                    repeat (first | refine then_normal ?_ | refine then_exit ?_ | refine then_ret ?_ | refine block_normal ?_ | refine block_ret ?_ | refine block_exit ?_ | refine block_pass rfl ?_)
                    rcases bif_some h with ⟨h29, h⟩ | ⟨h29, h⟩
                    · refine c_t h29 rfl ?_
                      refine c_seq ?_
                      refine c_region ?_
                      refine o_s (.t (.d (.seq 1 (bytesD x11.1)))) (g0 rfl) rfl rfl rfl ?_
                      obtain ⟨x30, h31, h⟩ := bind_some h
                      refine o_ca (fc_record_ReadVersion _ _ h31) (g0 rfl) rfl rfl rfl rfl rfl rfl rfl (.cons (.refl _) .nil) rfl rfl ?_
                      refine o_s (.tup [.agg [.lit (.string ⟨⟨x30.1.Folder⟩⟩), .lit (.string ⟨⟨x30.1.Item⟩⟩), .lit (.int .i64 x30.1.Number), .lit (.int .i64 x30.1.Epoch), .lit (.int .i64 x30.1.Seq), .seq 1 (bytesD x30.1.Digest), .lit (.bool x30.1.Gone), .seq 1 (bytesD x30.1.Lock), .seq 1 (bytesD x30.1.Body), .lit (.string ⟨⟨x30.1.By⟩⟩)], .d (.lit (.int .i64 x30.2))]) (g0 rfl) rfl rfl rfl ?_
                      refine o_s (.t (.agg [.lit (.string ⟨⟨x30.1.Folder⟩⟩), .lit (.string ⟨⟨x30.1.Item⟩⟩), .lit (.int .i64 x30.1.Number), .lit (.int .i64 x30.1.Epoch), .lit (.int .i64 x30.1.Seq), .seq 1 (bytesD x30.1.Digest), .lit (.bool x30.1.Gone), .seq 1 (bytesD x30.1.Lock), .seq 1 (bytesD x30.1.Body), .lit (.string ⟨⟨x30.1.By⟩⟩)])) (g0 rfl) rfl rfl rfl ?_
                      refine o_s (.t (.d (.lit (.int .i64 x30.2)))) (g0 rfl) rfl rfl rfl ?_
                      refine o_s (.box [.d (.lit (.string ⟨⟨[]⟩⟩)), .d (.lit (.string ⟨⟨[]⟩⟩)), .d (.lit (.int .i64 0)), .d (.lit (.int .i64 0)), .d (.lit (.int .i64 0)), .d (.lit (.slice none 0 0)), .d (.lit (.bool false)), .d (.lit (.slice none 0 0)), .d (.lit (.slice none 0 0)), .d (.lit (.string ⟨⟨[]⟩⟩))]) (g0 rfl) rfl rfl rfl ?_
                      refine o_st (.box [.d (.lit (.string ⟨⟨x30.1.Folder⟩⟩)), .d (.lit (.string ⟨⟨x30.1.Item⟩⟩)), .d (.lit (.int .i64 x30.1.Number)), .d (.lit (.int .i64 x30.1.Epoch)), .d (.lit (.int .i64 x30.1.Seq)), .d (.seq 1 (bytesD x30.1.Digest)), .d (.lit (.bool x30.1.Gone)), .d (.seq 1 (bytesD x30.1.Lock)), .d (.seq 1 (bytesD x30.1.Body)), .d (.lit (.string ⟨⟨x30.1.By⟩⟩))]) (g0 rfl) rfl rfl rfl ?_
                      refine o_s (.t (.d (.lit (.int .i64 x30.2)))) (g0 rfl) rfl rfl rfl ?_
                      refine o_nil ?_
                      repeat (first | refine then_normal ?_ | refine then_exit ?_ | refine then_ret ?_ | refine block_normal ?_ | refine block_ret ?_ | refine block_exit ?_ | refine block_pass rfl ?_)
                      refine c_seq ?_
                      refine c_region ?_
                      refine o_s (.t (.d (.lit (.int .i64 x11.2)))) (g0 rfl) rfl rfl rfl ?_
                      refine o_s (.t (.d (.lit (.bool (x11.2 != 0))))) (g0 rfl) rfl rfl rfl ?_
                      refine o_s (.t (.d (.lit (.bool (x11.2 != 0))))) (g0 rfl) rfl rfl rfl ?_
                      rcases bif_some h with ⟨h32, h⟩ | ⟨h32, h⟩
                      · refine o_skip rfl rfl rfl h32 rfl rfl ?_
                        refine o_skip rfl rfl rfl h32 rfl rfl ?_
                        refine o_skip rfl rfl rfl h32 rfl rfl ?_
                        refine o_skip rfl rfl rfl h32 rfl rfl ?_
                        refine o_skip rfl rfl rfl h32 rfl rfl ?_
                        refine o_pk (.t (.d (.lit (.bool true)))) (b := true) h32 (g0 rfl) rfl rfl rfl rfl rfl ?_
                        refine o_s (.t (.d (.lit (.bool true)))) (g0 rfl) rfl rfl rfl ?_
                        refine o_skip rfl rfl rfl rfl rfl rfl ?_
                        refine o_skip rfl rfl rfl rfl rfl rfl ?_
                        refine o_pk (.t (.d (.lit (.bool true)))) (b := true) rfl (g0 rfl) rfl rfl rfl rfl rfl ?_
                        refine o_s (.t (.d (.lit (.bool true)))) (g0 rfl) rfl rfl rfl ?_
                        refine o_skip rfl rfl rfl rfl rfl rfl ?_
                        refine o_skip rfl rfl rfl rfl rfl rfl ?_
                        refine o_skip rfl rfl rfl rfl rfl rfl ?_
                        refine o_skip rfl rfl rfl rfl rfl rfl ?_
                        refine o_pk (.t (.d (.lit (.bool true)))) (b := true) rfl (g0 rfl) rfl rfl rfl rfl rfl ?_
                        refine o_nil ?_
                        repeat (first | refine then_normal ?_ | refine then_exit ?_ | refine then_ret ?_ | refine block_normal ?_ | refine block_ret ?_ | refine block_exit ?_ | refine block_pass rfl ?_)
                        refine c_t rfl rfl ?_
                        refine c_seq ?_
                        refine c_region ?_
                        refine o_s (.t (.d (.lit (.bool false)))) (g0 rfl) rfl rfl rfl ?_
                        refine o_nil ?_
                        repeat (first | refine then_normal ?_ | refine then_exit ?_ | refine then_ret ?_ | refine block_normal ?_ | refine block_ret ?_ | refine block_exit ?_ | refine block_pass rfl ?_)
                        refine c_ret ?_
                        repeat (first | refine then_normal ?_ | refine then_exit ?_ | refine then_ret ?_ | refine block_normal ?_ | refine block_ret ?_ | refine block_exit ?_ | refine block_pass rfl ?_)
                        obtain rfl := Option.some.inj h
                        exact end0 rfl (.refl _)
                      · refine o_s (.t (.d (.seq 1 (bytesD x11.1)))) (gy rfl rfl rfl h32) rfl rfl rfl ?_
                        refine o_s (.t (.agg [.lit (.string ⟨⟨p0.Folder⟩⟩), .lit (.string ⟨⟨p0.Item⟩⟩), .lit (.int .i64 p0.Number), .lit (.int .i64 p0.Epoch), .lit (.int .i64 p0.Seq), .seq 1 (bytesD p0.Digest), .lit (.bool p0.Gone), .seq 1 (bytesD p0.Lock), .seq 1 (bytesD p0.Body), .lit (.string ⟨⟨p0.By⟩⟩)])) (gy rfl rfl rfl h32) rfl rfl rfl ?_
                        obtain ⟨x33, h34, h⟩ := bind_some h
                        refine o_ca (fc_R35_VersionText _ _ h34) (gy rfl rfl rfl h32) rfl rfl rfl rfl rfl rfl rfl (.cons (.refl _) .nil) rfl rfl ?_
                        obtain ⟨x35, h36, h⟩ := bind_some h
                        refine o_ca (fc_R01_Same _ _ _ h36) (gy rfl rfl rfl h32) rfl rfl rfl rfl rfl rfl rfl (.cons (.refl _) (.cons (.refl _) .nil)) rfl rfl ?_
                        refine o_s (.t (.d (.lit (.bool (!x35))))) (gy rfl rfl rfl h32) rfl rfl rfl ?_
                        refine o_pk (.t (.d (.lit (.bool (!x35))))) (b := false) h32 (g0 rfl) rfl rfl rfl rfl rfl ?_
                        refine o_s (.t (.d (.lit (.bool (!x35))))) (g0 rfl) rfl rfl rfl ?_
                        rcases bif_some h with ⟨h37, h⟩ | ⟨h37, h⟩
                        · refine o_skip rfl rfl rfl h37 rfl rfl ?_
                          refine o_skip rfl rfl rfl h37 rfl rfl ?_
                          refine o_pk (.t (.d (.lit (.bool true)))) (b := true) h37 (g0 rfl) rfl rfl rfl rfl rfl ?_
                          refine o_s (.t (.d (.lit (.bool true)))) (g0 rfl) rfl rfl rfl ?_
                          refine o_skip rfl rfl rfl rfl rfl rfl ?_
                          refine o_skip rfl rfl rfl rfl rfl rfl ?_
                          refine o_skip rfl rfl rfl rfl rfl rfl ?_
                          refine o_skip rfl rfl rfl rfl rfl rfl ?_
                          refine o_pk (.t (.d (.lit (.bool true)))) (b := true) rfl (g0 rfl) rfl rfl rfl rfl rfl ?_
                          refine o_nil ?_
                          repeat (first | refine then_normal ?_ | refine then_exit ?_ | refine then_ret ?_ | refine block_normal ?_ | refine block_ret ?_ | refine block_exit ?_ | refine block_pass rfl ?_)
                          refine c_t rfl rfl ?_
                          refine c_seq ?_
                          refine c_region ?_
                          refine o_s (.t (.d (.lit (.bool false)))) (g0 rfl) rfl rfl rfl ?_
                          refine o_nil ?_
                          repeat (first | refine then_normal ?_ | refine then_exit ?_ | refine then_ret ?_ | refine block_normal ?_ | refine block_ret ?_ | refine block_exit ?_ | refine block_pass rfl ?_)
                          refine c_ret ?_
                          repeat (first | refine then_normal ?_ | refine then_exit ?_ | refine then_ret ?_ | refine block_normal ?_ | refine block_ret ?_ | refine block_exit ?_ | refine block_pass rfl ?_)
                          obtain rfl := Option.some.inj h
                          exact end0 rfl (.refl _)
                        · refine o_s (.t (.d (.lit (.int .i64 x30.2)))) (gy rfl rfl rfl h37) rfl rfl rfl ?_
                          refine o_s (.t (.d (.lit (.bool (x30.2 != 0))))) (gy rfl rfl rfl h37) rfl rfl rfl ?_
                          refine o_pk (.t (.d (.lit (.bool (x30.2 != 0))))) (b := false) h37 (g0 rfl) rfl rfl rfl rfl rfl ?_
                          refine o_s (.t (.d (.lit (.bool (x30.2 != 0))))) (g0 rfl) rfl rfl rfl ?_
                          rcases bif_some h with ⟨h38, h⟩ | ⟨h38, h⟩
                          · refine o_skip rfl rfl rfl h38 rfl rfl ?_
                            refine o_skip rfl rfl rfl h38 rfl rfl ?_
                            refine o_skip rfl rfl rfl h38 rfl rfl ?_
                            refine o_skip rfl rfl rfl h38 rfl rfl ?_
                            refine o_pk (.t (.d (.lit (.bool true)))) (b := true) h38 (g0 rfl) rfl rfl rfl rfl rfl ?_
                            refine o_nil ?_
                            repeat (first | refine then_normal ?_ | refine then_exit ?_ | refine then_ret ?_ | refine block_normal ?_ | refine block_ret ?_ | refine block_exit ?_ | refine block_pass rfl ?_)
                            refine c_t rfl rfl ?_
                            refine c_seq ?_
                            refine c_region ?_
                            refine o_s (.t (.d (.lit (.bool false)))) (g0 rfl) rfl rfl rfl ?_
                            refine o_nil ?_
                            repeat (first | refine then_normal ?_ | refine then_exit ?_ | refine then_ret ?_ | refine block_normal ?_ | refine block_ret ?_ | refine block_exit ?_ | refine block_pass rfl ?_)
                            refine c_ret ?_
                            repeat (first | refine then_normal ?_ | refine then_exit ?_ | refine then_ret ?_ | refine block_normal ?_ | refine block_ret ?_ | refine block_exit ?_ | refine block_pass rfl ?_)
                            obtain rfl := Option.some.inj h
                            exact end0 rfl (.refl _)
                          · refine o_s (.t (.agg [.lit (.string ⟨⟨x30.1.Folder⟩⟩), .lit (.string ⟨⟨x30.1.Item⟩⟩), .lit (.int .i64 x30.1.Number), .lit (.int .i64 x30.1.Epoch), .lit (.int .i64 x30.1.Seq), .seq 1 (bytesD x30.1.Digest), .lit (.bool x30.1.Gone), .seq 1 (bytesD x30.1.Lock), .seq 1 (bytesD x30.1.Body), .lit (.string ⟨⟨x30.1.By⟩⟩)])) (gy rfl rfl rfl h38) rfl rfl rfl ?_
                            refine o_s (.t (.agg [.lit (.string ⟨⟨p0.Folder⟩⟩), .lit (.string ⟨⟨p0.Item⟩⟩), .lit (.int .i64 p0.Number), .lit (.int .i64 p0.Epoch), .lit (.int .i64 p0.Seq), .seq 1 (bytesD p0.Digest), .lit (.bool p0.Gone), .seq 1 (bytesD p0.Lock), .seq 1 (bytesD p0.Body), .lit (.string ⟨⟨p0.By⟩⟩)])) (gy rfl rfl rfl h38) rfl rfl rfl ?_
                            obtain ⟨x39, h40, h⟩ := bind_some h
                            refine o_ca (fc_R35_SameVersion _ _ _ h40) (gy rfl rfl rfl h38) rfl rfl rfl rfl rfl rfl rfl (.cons (.refl _) (.cons (.refl _) .nil)) rfl rfl ?_
                            refine o_s (.t (.d (.lit (.bool (!x39))))) (gy rfl rfl rfl h38) rfl rfl rfl ?_
                            refine o_pk (.t (.d (.lit (.bool (!x39))))) (b := false) h38 (g0 rfl) rfl rfl rfl rfl rfl ?_
                            refine o_nil ?_
                            repeat (first | refine then_normal ?_ | refine then_exit ?_ | refine then_ret ?_ | refine block_normal ?_ | refine block_ret ?_ | refine block_exit ?_ | refine block_pass rfl ?_)
                            rcases bif_some h with ⟨h41, h⟩ | ⟨h41, h⟩
                            · refine c_t h41 rfl ?_
                              refine c_seq ?_
                              refine c_region ?_
                              refine o_s (.t (.d (.lit (.bool false)))) (g0 rfl) rfl rfl rfl ?_
                              refine o_nil ?_
                              repeat (first | refine then_normal ?_ | refine then_exit ?_ | refine then_ret ?_ | refine block_normal ?_ | refine block_ret ?_ | refine block_exit ?_ | refine block_pass rfl ?_)
                              refine c_ret ?_
                              repeat (first | refine then_normal ?_ | refine then_exit ?_ | refine then_ret ?_ | refine block_normal ?_ | refine block_ret ?_ | refine block_exit ?_ | refine block_pass rfl ?_)
                              obtain rfl := Option.some.inj h
                              exact end0 rfl (.refl _)
                            · refine c_f h41 rfl ?_
                              refine c_skip ?_
                              repeat (first | refine then_normal ?_ | refine then_exit ?_ | refine then_ret ?_ | refine block_normal ?_ | refine block_ret ?_ | refine block_exit ?_ | refine block_pass rfl ?_)
                              exact ⟨(), h, ⟨(.refl _), trivial⟩, rfl⟩
                    · refine c_f h29 rfl ?_
                      refine c_seq ?_
                      refine c_region ?_
                      refine o_s (.t (.d (.lit (.int .i64 x11.2)))) (g0 rfl) rfl rfl rfl ?_
                      refine o_s (.t (.d (.lit (.bool (x11.2 != 2))))) (g0 rfl) rfl rfl rfl ?_
                      refine o_s (.t (.d (.lit (.bool (x11.2 != 2))))) (g0 rfl) rfl rfl rfl ?_
                      rcases bif_some h with ⟨h42, h⟩ | ⟨h42, h⟩
                      · refine o_skip rfl rfl rfl h42 rfl rfl ?_
                        refine o_skip rfl rfl rfl h42 rfl rfl ?_
                        refine o_skip rfl rfl rfl h42 rfl rfl ?_
                        refine o_pk (.t (.d (.lit (.bool true)))) (b := true) h42 (g0 rfl) rfl rfl rfl rfl rfl ?_
                        refine o_nil ?_
                        repeat (first | refine then_normal ?_ | refine then_exit ?_ | refine then_ret ?_ | refine block_normal ?_ | refine block_ret ?_ | refine block_exit ?_ | refine block_pass rfl ?_)
                        refine c_t rfl rfl ?_
                        refine c_seq ?_
                        refine c_region ?_
                        refine o_s (.t (.d (.lit (.bool false)))) (g0 rfl) rfl rfl rfl ?_
                        refine o_nil ?_
                        repeat (first | refine then_normal ?_ | refine then_exit ?_ | refine then_ret ?_ | refine block_normal ?_ | refine block_ret ?_ | refine block_exit ?_ | refine block_pass rfl ?_)
                        refine c_ret ?_
                        repeat (first | refine then_normal ?_ | refine then_exit ?_ | refine then_ret ?_ | refine block_normal ?_ | refine block_ret ?_ | refine block_exit ?_ | refine block_pass rfl ?_)
                        obtain rfl := Option.some.inj h
                        exact end0 rfl (.refl _)
                      · refine o_s (.t (.d (.seq 1 (bytesD x11.1)))) (gy rfl rfl rfl h42) rfl rfl rfl ?_
                        refine o_c (gy rfl rfl rfl h42) rfl rfl rfl (lenE _ _) trivial ?_
                        refine o_s (.t (.d (.lit (.bool (decide ((x11.1.length : Int) > 0)))))) (gy rfl rfl rfl h42) rfl rfl rfl ?_
                        refine o_pk (.t (.d (.lit (.bool (decide ((x11.1.length : Int) > 0)))))) (b := false) h42 (g0 rfl) rfl rfl rfl rfl rfl ?_
                        refine o_nil ?_
                        repeat (first | refine then_normal ?_ | refine then_exit ?_ | refine then_ret ?_ | refine block_normal ?_ | refine block_ret ?_ | refine block_exit ?_ | refine block_pass rfl ?_)
                        rcases bif_some h with ⟨h43, h⟩ | ⟨h43, h⟩
                        · refine c_t h43 rfl ?_
                          refine c_seq ?_
                          refine c_region ?_
                          refine o_s (.t (.d (.lit (.bool false)))) (g0 rfl) rfl rfl rfl ?_
                          refine o_nil ?_
                          repeat (first | refine then_normal ?_ | refine then_exit ?_ | refine then_ret ?_ | refine block_normal ?_ | refine block_ret ?_ | refine block_exit ?_ | refine block_pass rfl ?_)
                          refine c_ret ?_
                          repeat (first | refine then_normal ?_ | refine then_exit ?_ | refine then_ret ?_ | refine block_normal ?_ | refine block_ret ?_ | refine block_exit ?_ | refine block_pass rfl ?_)
                          obtain rfl := Option.some.inj h
                          exact end0 rfl (.refl _)
                        · refine c_f h43 rfl ?_
                          refine c_skip ?_
                          repeat (first | refine then_normal ?_ | refine then_exit ?_ | refine then_ret ?_ | refine block_normal ?_ | refine block_ret ?_ | refine block_exit ?_ | refine block_pass rfl ?_)
                          exact ⟨(), h, ⟨(.refl _), trivial⟩, rfl⟩
                  · rintro ⟨⟩ h
                    refine c_seq ?_
                    refine c_region ?_
                    refine o_s (.t (.d (.seq 1 (bytesD p1)))) (g0 rfl) rfl rfl rfl ?_
                    obtain ⟨x13, h14, h⟩ := bind_some h
                    refine o_ca (fc_record_ReadVersion _ _ h14) (g0 rfl) rfl rfl rfl rfl rfl rfl rfl (.cons (.refl _) .nil) rfl rfl ?_
                    refine o_s (.tup [.agg [.lit (.string ⟨⟨x13.1.Folder⟩⟩), .lit (.string ⟨⟨x13.1.Item⟩⟩), .lit (.int .i64 x13.1.Number), .lit (.int .i64 x13.1.Epoch), .lit (.int .i64 x13.1.Seq), .seq 1 (bytesD x13.1.Digest), .lit (.bool x13.1.Gone), .seq 1 (bytesD x13.1.Lock), .seq 1 (bytesD x13.1.Body), .lit (.string ⟨⟨x13.1.By⟩⟩)], .d (.lit (.int .i64 x13.2))]) (g0 rfl) rfl rfl rfl ?_
                    refine o_s (.t (.agg [.lit (.string ⟨⟨x13.1.Folder⟩⟩), .lit (.string ⟨⟨x13.1.Item⟩⟩), .lit (.int .i64 x13.1.Number), .lit (.int .i64 x13.1.Epoch), .lit (.int .i64 x13.1.Seq), .seq 1 (bytesD x13.1.Digest), .lit (.bool x13.1.Gone), .seq 1 (bytesD x13.1.Lock), .seq 1 (bytesD x13.1.Body), .lit (.string ⟨⟨x13.1.By⟩⟩)])) (g0 rfl) rfl rfl rfl ?_
                    refine o_s (.t (.d (.lit (.int .i64 x13.2)))) (g0 rfl) rfl rfl rfl ?_
                    refine o_s (.box [.d (.lit (.string ⟨⟨[]⟩⟩)), .d (.lit (.string ⟨⟨[]⟩⟩)), .d (.lit (.int .i64 0)), .d (.lit (.int .i64 0)), .d (.lit (.int .i64 0)), .d (.lit (.slice none 0 0)), .d (.lit (.bool false)), .d (.lit (.slice none 0 0)), .d (.lit (.slice none 0 0)), .d (.lit (.string ⟨⟨[]⟩⟩))]) (g0 rfl) rfl rfl rfl ?_
                    refine o_st (.box [.d (.lit (.string ⟨⟨x13.1.Folder⟩⟩)), .d (.lit (.string ⟨⟨x13.1.Item⟩⟩)), .d (.lit (.int .i64 x13.1.Number)), .d (.lit (.int .i64 x13.1.Epoch)), .d (.lit (.int .i64 x13.1.Seq)), .d (.seq 1 (bytesD x13.1.Digest)), .d (.lit (.bool x13.1.Gone)), .d (.seq 1 (bytesD x13.1.Lock)), .d (.seq 1 (bytesD x13.1.Body)), .d (.lit (.string ⟨⟨x13.1.By⟩⟩))]) (g0 rfl) rfl rfl rfl ?_
                    refine o_s (.t (.d (.lit (.int .i64 x13.2)))) (g0 rfl) rfl rfl rfl ?_
                    refine o_nil ?_
                    repeat (first | refine then_normal ?_ | refine then_exit ?_ | refine then_ret ?_ | refine block_normal ?_ | refine block_ret ?_ | refine block_exit ?_ | refine block_pass rfl ?_)
                    refine c_seq ?_
                    refine c_region ?_
                    refine o_s (.t (.d (.seq 1 (bytesD p1)))) (g0 rfl) rfl rfl rfl ?_
                    obtain ⟨x15, h16, h⟩ := bind_some h
                    refine o_ca (fc_R35_ReadVersion _ _ h16) (g0 rfl) rfl rfl rfl rfl rfl rfl rfl (.cons (.refl _) .nil) rfl rfl ?_
                    refine o_s (.tup [.agg [.lit (.string ⟨⟨x15.1.Folder⟩⟩), .lit (.string ⟨⟨x15.1.Item⟩⟩), .lit (.int .i64 x15.1.Number), .lit (.int .i64 x15.1.Epoch), .lit (.int .i64 x15.1.Seq), .seq 1 (bytesD x15.1.Digest), .lit (.bool x15.1.Gone), .seq 1 (bytesD x15.1.Lock), .seq 1 (bytesD x15.1.Body), .lit (.string ⟨⟨x15.1.By⟩⟩)], .d (.lit (.int .i64 x15.2))]) (g0 rfl) rfl rfl rfl ?_
                    refine o_s (.t (.agg [.lit (.string ⟨⟨x15.1.Folder⟩⟩), .lit (.string ⟨⟨x15.1.Item⟩⟩), .lit (.int .i64 x15.1.Number), .lit (.int .i64 x15.1.Epoch), .lit (.int .i64 x15.1.Seq), .seq 1 (bytesD x15.1.Digest), .lit (.bool x15.1.Gone), .seq 1 (bytesD x15.1.Lock), .seq 1 (bytesD x15.1.Body), .lit (.string ⟨⟨x15.1.By⟩⟩)])) (g0 rfl) rfl rfl rfl ?_
                    refine o_s (.t (.d (.lit (.int .i64 x15.2)))) (g0 rfl) rfl rfl rfl ?_
                    refine o_s (.box [.d (.lit (.string ⟨⟨[]⟩⟩)), .d (.lit (.string ⟨⟨[]⟩⟩)), .d (.lit (.int .i64 0)), .d (.lit (.int .i64 0)), .d (.lit (.int .i64 0)), .d (.lit (.slice none 0 0)), .d (.lit (.bool false)), .d (.lit (.slice none 0 0)), .d (.lit (.slice none 0 0)), .d (.lit (.string ⟨⟨[]⟩⟩))]) (g0 rfl) rfl rfl rfl ?_
                    refine o_st (.box [.d (.lit (.string ⟨⟨x15.1.Folder⟩⟩)), .d (.lit (.string ⟨⟨x15.1.Item⟩⟩)), .d (.lit (.int .i64 x15.1.Number)), .d (.lit (.int .i64 x15.1.Epoch)), .d (.lit (.int .i64 x15.1.Seq)), .d (.seq 1 (bytesD x15.1.Digest)), .d (.lit (.bool x15.1.Gone)), .d (.seq 1 (bytesD x15.1.Lock)), .d (.seq 1 (bytesD x15.1.Body)), .d (.lit (.string ⟨⟨x15.1.By⟩⟩))]) (g0 rfl) rfl rfl rfl ?_
                    refine o_s (.t (.d (.lit (.int .i64 x15.2)))) (g0 rfl) rfl rfl rfl ?_
                    refine o_nil ?_
                    repeat (first | refine then_normal ?_ | refine then_exit ?_ | refine then_ret ?_ | refine block_normal ?_ | refine block_ret ?_ | refine block_exit ?_ | refine block_pass rfl ?_)
                    refine c_seq ?_
                    refine c_seq ?_
                    refine c_region ?_
                    refine o_s (.t (.d (.lit (.int .i64 x13.2)))) (g0 rfl) rfl rfl rfl ?_
                    refine o_s (.t (.d (.lit (.int .i64 x15.2)))) (g0 rfl) rfl rfl rfl ?_
                    refine o_s (.t (.d (.lit (.bool (x13.2 != x15.2))))) (g0 rfl) rfl rfl rfl ?_
                    refine o_s (.t (.d (.lit (.bool (x13.2 != x15.2))))) (g0 rfl) rfl rfl rfl ?_
                    rcases bif_some h with ⟨h17, h⟩ | ⟨h17, h⟩
                    · refine o_skip rfl rfl rfl h17 rfl rfl ?_
                      refine o_skip rfl rfl rfl h17 rfl rfl ?_
                      refine o_skip rfl rfl rfl h17 rfl rfl ?_
                      refine o_skip rfl rfl rfl h17 rfl rfl ?_
                      refine o_pk (.t (.d (.lit (.bool true)))) (b := true) h17 (g0 rfl) rfl rfl rfl rfl rfl ?_
                      refine o_nil ?_
                      repeat (first | refine then_normal ?_ | refine then_exit ?_ | refine then_ret ?_ | refine block_normal ?_ | refine block_ret ?_ | refine block_exit ?_ | refine block_pass rfl ?_)
                      refine c_t rfl rfl ?_
                      refine c_seq ?_
                      refine c_region ?_
                      refine o_s (.t (.d (.lit (.bool false)))) (g0 rfl) rfl rfl rfl ?_
                      refine o_nil ?_
                      repeat (first | refine then_normal ?_ | refine then_exit ?_ | refine then_ret ?_ | refine block_normal ?_ | refine block_ret ?_ | refine block_exit ?_ | refine block_pass rfl ?_)
                      refine c_ret ?_
                      repeat (first | refine then_normal ?_ | refine then_exit ?_ | refine then_ret ?_ | refine block_normal ?_ | refine block_ret ?_ | refine block_exit ?_ | refine block_pass rfl ?_)
                      obtain rfl := Option.some.inj h
                      exact end0 rfl (.refl _)
                    · refine o_s (.t (.agg [.lit (.string ⟨⟨x13.1.Folder⟩⟩), .lit (.string ⟨⟨x13.1.Item⟩⟩), .lit (.int .i64 x13.1.Number), .lit (.int .i64 x13.1.Epoch), .lit (.int .i64 x13.1.Seq), .seq 1 (bytesD x13.1.Digest), .lit (.bool x13.1.Gone), .seq 1 (bytesD x13.1.Lock), .seq 1 (bytesD x13.1.Body), .lit (.string ⟨⟨x13.1.By⟩⟩)])) (gy rfl rfl rfl h17) rfl rfl rfl ?_
                      refine o_s (.t (.agg [.lit (.string ⟨⟨x15.1.Folder⟩⟩), .lit (.string ⟨⟨x15.1.Item⟩⟩), .lit (.int .i64 x15.1.Number), .lit (.int .i64 x15.1.Epoch), .lit (.int .i64 x15.1.Seq), .seq 1 (bytesD x15.1.Digest), .lit (.bool x15.1.Gone), .seq 1 (bytesD x15.1.Lock), .seq 1 (bytesD x15.1.Body), .lit (.string ⟨⟨x15.1.By⟩⟩)])) (gy rfl rfl rfl h17) rfl rfl rfl ?_
                      obtain ⟨x18, h19, h⟩ := bind_some h
                      refine o_ca (fc_R35_SameVersion _ _ _ h19) (gy rfl rfl rfl h17) rfl rfl rfl rfl rfl rfl rfl (.cons (.refl _) (.cons (.refl _) .nil)) rfl rfl ?_
                      refine o_s (.t (.d (.lit (.bool (!x18))))) (gy rfl rfl rfl h17) rfl rfl rfl ?_
                      refine o_pk (.t (.d (.lit (.bool (!x18))))) (b := false) h17 (g0 rfl) rfl rfl rfl rfl rfl ?_
                      refine o_nil ?_
                      repeat (first | refine then_normal ?_ | refine then_exit ?_ | refine then_ret ?_ | refine block_normal ?_ | refine block_ret ?_ | refine block_exit ?_ | refine block_pass rfl ?_)
                      rcases bif_some h with ⟨h20, h⟩ | ⟨h20, h⟩
                      · refine c_t h20 rfl ?_
                        refine c_seq ?_
                        refine c_region ?_
                        refine o_s (.t (.d (.lit (.bool false)))) (g0 rfl) rfl rfl rfl ?_
                        refine o_nil ?_
                        repeat (first | refine then_normal ?_ | refine then_exit ?_ | refine then_ret ?_ | refine block_normal ?_ | refine block_ret ?_ | refine block_exit ?_ | refine block_pass rfl ?_)
                        refine c_ret ?_
                        repeat (first | refine then_normal ?_ | refine then_exit ?_ | refine then_ret ?_ | refine block_normal ?_ | refine block_ret ?_ | refine block_exit ?_ | refine block_pass rfl ?_)
                        obtain rfl := Option.some.inj h
                        exact end0 rfl (.refl _)
                      · refine c_f h20 rfl ?_
                        refine c_skip ?_
                        repeat (first | refine then_normal ?_ | refine then_exit ?_ | refine then_ret ?_ | refine block_normal ?_ | refine block_ret ?_ | refine block_exit ?_ | refine block_pass rfl ?_)
                        refine c_seq ?_
                        refine c_region ?_
                        refine o_s (.t (.agg [.lit (.string ⟨⟨x13.1.Folder⟩⟩), .lit (.string ⟨⟨x13.1.Item⟩⟩), .lit (.int .i64 x13.1.Number), .lit (.int .i64 x13.1.Epoch), .lit (.int .i64 x13.1.Seq), .seq 1 (bytesD x13.1.Digest), .lit (.bool x13.1.Gone), .seq 1 (bytesD x13.1.Lock), .seq 1 (bytesD x13.1.Body), .lit (.string ⟨⟨x13.1.By⟩⟩)])) (g0 rfl) rfl rfl rfl ?_
                        obtain ⟨x21, h22, h⟩ := bind_some h
                        refine o_ca (fc_record_VersionText _ _ h22) (g0 rfl) rfl rfl rfl rfl rfl rfl rfl (.cons (.refl _) .nil) rfl rfl ?_
                        refine o_s (.tup [.d (.seq 1 (bytesD x21.1)), .d (.lit (.int .i64 x21.2))]) (g0 rfl) rfl rfl rfl ?_
                        refine o_s (.t (.d (.seq 1 (bytesD x21.1)))) (g0 rfl) rfl rfl rfl ?_
                        refine o_s (.t (.d (.lit (.int .i64 x21.2)))) (g0 rfl) rfl rfl rfl ?_
                        refine o_s (.t (.d (.seq 1 (bytesD x21.1)))) (g0 rfl) rfl rfl rfl ?_
                        refine o_s (.t (.d (.lit (.int .i64 x21.2)))) (g0 rfl) rfl rfl rfl ?_
                        refine o_nil ?_
                        repeat (first | refine then_normal ?_ | refine then_exit ?_ | refine then_ret ?_ | refine block_normal ?_ | refine block_ret ?_ | refine block_exit ?_ | refine block_pass rfl ?_)
                        refine c_seq ?_
                        refine c_region ?_
                        refine o_s (.t (.d (.lit (.int .i64 x13.2)))) (g0 rfl) rfl rfl rfl ?_
                        refine o_s (.t (.d (.lit (.bool (x13.2 != 0))))) (g0 rfl) rfl rfl rfl ?_
                        refine o_s (.t (.d (.lit (.bool (x13.2 != 0))))) (g0 rfl) rfl rfl rfl ?_
                        rcases bif_some h with ⟨h23, h⟩ | ⟨h23, h⟩
                        · refine o_skip rfl rfl rfl h23 rfl rfl ?_
                          refine o_skip rfl rfl rfl h23 rfl rfl ?_
                          refine o_skip rfl rfl rfl h23 rfl rfl ?_
                          refine o_un rfl rfl rfl rfl rfl ?_
                          refine o_un rfl rfl rfl rfl rfl ?_
                          refine o_un rfl rfl rfl rfl rfl ?_
                          refine o_skip rfl rfl rfl h23 rfl rfl ?_
                          refine o_pk (.t (.d (.lit (.bool true)))) (b := true) h23 (g0 rfl) rfl rfl rfl rfl rfl ?_
                          refine o_s (.t (.d (.lit (.bool true)))) (g0 rfl) rfl rfl rfl ?_
                          refine o_nil ?_
                          repeat (first | refine then_normal ?_ | refine then_exit ?_ | refine then_ret ?_ | refine block_normal ?_ | refine block_ret ?_ | refine block_exit ?_ | refine block_pass rfl ?_)
                          refine c_ret ?_
                          repeat (first | refine then_normal ?_ | refine then_exit ?_ | refine then_ret ?_ | refine block_normal ?_ | refine block_ret ?_ | refine block_exit ?_ | refine block_pass rfl ?_)
                          obtain rfl := Option.some.inj h
                          exact end0 rfl (.refl _)
                        · refine o_s (.t (.d (.lit (.int .i64 x21.2)))) (gy rfl rfl rfl h23) rfl rfl rfl ?_
                          refine o_s (.t (.d (.lit (.bool (x21.2 == 0))))) (gy rfl rfl rfl h23) rfl rfl rfl ?_
                          refine o_s (.t (.d (.lit (.bool (x21.2 == 0))))) (gy rfl rfl rfl h23) rfl rfl rfl ?_
                          rcases bif_some h with ⟨h24, h⟩ | ⟨h24, h⟩
                          · refine o_s (.t (.d (.seq 1 (bytesD x21.1)))) (gy rfl rfl rfl h24) rfl rfl rfl ?_
                            refine o_s (.t (.d (.seq 1 (bytesD p1)))) (gy rfl rfl rfl h24) rfl rfl rfl ?_
                            obtain ⟨x25, h26, h⟩ := bind_some h
                            refine o_ca (fc_R01_Same _ _ _ h26) (gy rfl rfl rfl h24) rfl rfl rfl rfl rfl rfl rfl (.cons (.refl _) (.cons (.refl _) .nil)) rfl rfl ?_
                            refine o_pk (.t (.d (.lit (.bool x25)))) (b := true) h24 (gy rfl rfl rfl h23) rfl rfl rfl rfl rfl ?_
                            refine o_pk (.t (.d (.lit (.bool x25)))) (b := false) h23 (g0 rfl) rfl rfl rfl rfl rfl ?_
                            refine o_s (.t (.d (.lit (.bool x25)))) (g0 rfl) rfl rfl rfl ?_
                            refine o_nil ?_
                            repeat (first | refine then_normal ?_ | refine then_exit ?_ | refine then_ret ?_ | refine block_normal ?_ | refine block_ret ?_ | refine block_exit ?_ | refine block_pass rfl ?_)
                            refine c_ret ?_
                            repeat (first | refine then_normal ?_ | refine then_exit ?_ | refine then_ret ?_ | refine block_normal ?_ | refine block_ret ?_ | refine block_exit ?_ | refine block_pass rfl ?_)
                            obtain rfl := Option.some.inj h
                            exact end0 rfl (.refl _)
                          · refine o_skip rfl rfl rfl h24 rfl rfl ?_
                            refine o_skip rfl rfl rfl h24 rfl rfl ?_
                            refine o_skip rfl rfl rfl h24 rfl rfl ?_
                            refine o_pk (.t (.d (.lit (.bool false)))) (b := false) h24 (gy rfl rfl rfl h23) rfl rfl rfl rfl rfl ?_
                            refine o_pk (.t (.d (.lit (.bool false)))) (b := false) h23 (g0 rfl) rfl rfl rfl rfl rfl ?_
                            refine o_s (.t (.d (.lit (.bool false)))) (g0 rfl) rfl rfl rfl ?_
                            refine o_nil ?_
                            repeat (first | refine then_normal ?_ | refine then_exit ?_ | refine then_ret ?_ | refine block_normal ?_ | refine block_ret ?_ | refine block_exit ?_ | refine block_pass rfl ?_)
                            refine c_ret ?_
                            repeat (first | refine then_normal ?_ | refine then_exit ?_ | refine then_ret ?_ | refine block_normal ?_ | refine block_ret ?_ | refine block_exit ?_ | refine block_pass rfl ?_)
                            obtain rfl := Option.some.inj h
                            exact end0 rfl (.refl _)

end Go.Proofs.YteopjhakjeknaaaDoor
