/-
  Walks of functions: each function does what its model tells. Printed by a program of this claim's own (gen.py) off the given translation.
-/
import Derived.Test.YtjomnccladjpgaaQ12
import Derived.Test.YtjomnccladjpgaaQ16
import Derived.Test.YtjomnccladjpgaaQ17
set_option linter.unusedVariables false
set_option linter.unusedSimpArgs false
namespace Go.Proofs.Ytjomnccladjpgaa
open Go Go.RowKit
set_option linter.unusedVariables false
set_option maxHeartbeats 4000000
set_option maxRecDepth 20000
theorem fch_R20_Walk_v0 (p0 : (List (List UInt8))) (p1 : Int) (p2 : Int) (w0 : Hp) (r : ((List Int) × Int)) (h : m_R20_Walk p0 p1 p2 = some r) : FCH Try.prog 88 [.t (.view 0 0 41 1 p0.length), .t (.d (.lit (.int .i64 p1))), .t (.d (.lit (.int .i64 p2)))] [.box (fl (dT (cSl 1 cU8)) p0)] [.box (fl (dT (cSl 1 cU8)) p0)] (hpA w0) (hpA w0) (.tup [.d (.seq 1 (List.map cI64 r.1)), .d (.lit (.int .i64 r.2))]) := by
 refine fch_mk (rs := [.tmp 6, .tmp 7]) (n := 58) [] Try.func88 rfl rfl (Nat.le_of_ble_eq_true rfl) rfl (pins := [OB + 0]) rfl (L := [(HK, .hp (hpA w0)), (OB + 0, .box (fl (dT (cSl 1 cU8)) p0)), (0, .t (.view 0 0 41 1 p0.length)), (1, .i p1), (2, .i p2)]) rfl ?_
 refine c_sr ?_
 refine o_m2 (.n) (.i 0) rfl ?_
 refine o_nil (c_sr ?_)
 refine o_1 (.n) rfl ?_
 refine o_nil (c_sr ?_)
 refine o_m3 (.t (.view 0 0 41 1 p0.length)) (.i p1) (.i p2) rfl ?_
 obtain ⟨x1, h2, h⟩ := bind_some h
 refine o_of (e := [((OB + 0), .box (fl (dT (cSl 1 cU8)) p0)), (16, .i x1)]) (g0 rfl) (h_callR mR rfl (σ := [0]) (fr := []) rfl rfl rfl rfl rfl rfl rfl (fch_R20_Head_v0 _ _ _ w0 _ h2) (pure_hpA _) rfl (by simp [A.flatO, fl_noPt]) (by simp [A.flatO, fl_noPt]) rfl (.cons (argVw rfl rfl rfl) (.cons (.plain .r rfl) (.cons (.plain .r rfl) .nil))) rfl (.t (.flat rfl))) rfl ?_
 refine o_1 (.i x1) rfl ?_
 refine o_nil ?_
 refine c_cutH (fun (y3 : (List Int)) => [(0, .t (.view 0 0 41 1 p0.length)), (8, .t (.own 3 1 (List.map cI64 y3))), ((OB + 0), .box (fl (dT (cSl 1 cU8)) p0)), (HK, .hp (hpA w0))]) (fun (y3 : (List Int)) => m_R20_Walk_j1 y3 = some r) ?_ ?_
 ·
  refine c_block ?_
  refine c_fuelH (fun (q : (List Int) × Int) => [(0, .t (.view 0 0 41 1 p0.length)), (2, .i p2), (8, .t (.own 3 1 (List.map cI64 q.1))), (9, .i q.2), ((OB + 0), .box (fl (dT (cSl 1 cU8)) p0)), (HK, .hp (hpA w0))]) (fun nl2 => (fun (q : (List Int) × Int) => m_R20_Walk_l2 p0 p2 nl2 q.1 q.2 = some r)) (16400) ([], x1) [] h rfl ⟨.inr ⟨_, rfl, pure_hpA _⟩, by (repeat (first | exact ObP.nil | refine ObP.cons (.inl rfl) ?_ | refine ObP.cons (.inr (fun _ => rfl)) ?_ | refine ObP.cons (.inr (ob_box (fl_noPt _ _))) ?_ | refine ObP.cons (.inr (ob_gb _ _)) ?_))⟩ ⟨.r, .r, (.t (.nilOwn _ _)), .r, .r, .r, trivial⟩ rfl ?_
  rintro nl2 ⟨z4, z5⟩ h
  cases nl2 with
  | zero => exact none_ne h
  | succ nl2 =>
   refine c_seq (c_sr ?_)
   refine o_m2 (.i z5) (.b (z5 != 0)) rfl ?_
   refine o_nil ?_
   rcases bif_some h with ⟨h6, h⟩ | ⟨h6, h⟩
   ·
    refine c_t h6 rfl ?_
    refine c_skip (c_block (c_seq (c_sr ?_)))
    refine o_m3 (.i z5) (.b (decide (z5 < 0))) (.b (decide (z5 < 0))) rfl ?_
    rcases bif_some h with ⟨h7, h⟩ | ⟨h7, h⟩
    ·
     refine o_skip rfl rfl rfl h7 rfl rfl ?_
     refine o_skip rfl rfl rfl h7 rfl rfl ?_
     refine o_skip rfl rfl rfl h7 rfl rfl ?_
     refine o_skip rfl rfl rfl h7 rfl rfl ?_
     refine o_pk (.b true) (b := true) h7 (g0 rfl) rfl rfl rfl rfl rfl ?_
     refine o_nil ?_
     refine c_t rfl rfl ?_
     refine c_sr ?_
     refine o_2 (.t (.d (.seq 1 (List.map cI64 z4)))) (.t (.own 3 1 (List.map cI64 z4))) (g0 rfl) rfl rfl rfl ?_
     refine o_2 (.t (.d (.seq 1 (List.map cI64 z4)))) (.t (.own 3 1 (List.map cI64 z4))) (g0 rfl) rfl rfl rfl ?_
     refine o_1 (.i 11) rfl ?_
     refine o_nil (c_ret ?_)
     obtain rfl := Option.some.inj h
     exact ⟨⟨_, rfl, (.tup (.cons .r (.cons .r .nil)))⟩, ⟨rfl, trivial⟩, rfl⟩
    refine o_s (.i z5) (gy rfl rfl rfl h7) rfl rfl rfl ?_
    refine o_s (.t (.view 0 0 41 1 p0.length)) (gy rfl rfl rfl h7) rfl rfl rfl ?_
    refine o_of (e := [(24, .i (p0.length : Int))]) (gy rfl rfl rfl h7) (h_lln mR rfl rfl rfl rfl rfl rfl) rfl ?_
    refine o_s (.b (decide (z5 ≥ (p0.length : Int)))) (gy rfl rfl rfl h7) rfl rfl rfl ?_
    refine o_pk (.b (decide (z5 ≥ (p0.length : Int)))) (b := false) h7 (g0 rfl) rfl rfl rfl rfl rfl ?_
    refine o_nil ?_
    rcases bif_some h with ⟨h8, h⟩ | ⟨h8, h⟩
    ·
     refine c_t h8 rfl ?_
     refine c_sr ?_
     refine o_2 (.t (.d (.seq 1 (List.map cI64 z4)))) (.t (.own 3 1 (List.map cI64 z4))) (g0 rfl) rfl rfl rfl ?_
     refine o_2 (.t (.d (.seq 1 (List.map cI64 z4)))) (.t (.own 3 1 (List.map cI64 z4))) (g0 rfl) rfl rfl rfl ?_
     refine o_1 (.i 11) rfl ?_
     refine o_nil (c_ret ?_)
     obtain rfl := Option.some.inj h
     exact ⟨⟨_, rfl, (.tup (.cons .r (.cons .r .nil)))⟩, ⟨rfl, trivial⟩, rfl⟩
    refine c_f h8 rfl ?_
    refine c_skip (c_sr ?_)
    refine o_m2 (.t (.view 0 0 41 1 p0.length)) (.i z5) rfl ?_
    obtain ⟨x9, h10, h⟩ := bind_some h
    refine o_of (e := [(31, .ref (OB + 0) (0 + Int.toNat z5 * 1))]) (g0 rfl) (h_lix mR rfl rfl rfl rfl rfl (idxV rfl h10) rfl rfl rfl) rfl ?_
    refine o_of (e := [(32, .y x9)]) (g0 rfl) (h_lld mR rfl rfl rfl rfl (fl_at h10 rfl (fun _ => rfl)) rfl rfl rfl) rfl ?_
    obtain ⟨x11, h12, h⟩ := bind_some h
    refine o_ca (fc_R20_Read _ _ h12) (g0 rfl) rfl rfl rfl rfl rfl rfl rfl (.cons .r .nil) rfl rfl ?_
    refine o_m5 (.tup [.agg [.s x11.1.Key, .i x11.1.Version, .i x11.1.Len, .i x11.1.First], .i x11.2.1, .b x11.2.2]) (.t (.agg [.s x11.1.Key, .i x11.1.Version, .i x11.1.Len, .i x11.1.First])) (.i x11.2.1) (.b x11.2.2) (.box [.s [], .i 0, .i 0, .i 0]) rfl ?_
    refine o_st (.box [.s x11.1.Key, .i x11.1.Version, .i x11.1.Len, .i x11.1.First]) (g0 rfl) rfl rfl rfl ?_
    refine o_m2 (.i x11.2.1) (.b x11.2.2) rfl ?_
    refine o_nil (c_seq (c_sr ?_))
    refine o_m3 (.b x11.2.2) (.b (!x11.2.2)) (.b (!x11.2.2)) rfl ?_
    rcases bif_some h with ⟨h13, h⟩ | ⟨h13, h⟩
    ·
     refine o_skip rfl rfl rfl h13 rfl rfl ?_
     refine o_skip rfl rfl rfl h13 rfl rfl ?_
     refine o_skip rfl rfl rfl h13 rfl rfl ?_
     refine o_skip rfl rfl rfl h13 rfl rfl ?_
     refine o_skip rfl rfl rfl h13 rfl rfl ?_
     refine o_pk (.b true) (b := true) h13 (g0 rfl) rfl rfl rfl rfl rfl ?_
     refine o_1 (.b true) rfl ?_
     refine o_skip rfl rfl rfl rfl rfl rfl ?_
     refine o_skip rfl rfl rfl rfl rfl rfl ?_
     refine o_skip rfl rfl rfl rfl rfl rfl ?_
     refine o_pk (.b true) (b := true) rfl (g0 rfl) rfl rfl rfl rfl rfl ?_
     refine o_nil ?_
     refine c_t rfl rfl ?_
     refine c_sr ?_
     refine o_2 (.t (.d (.seq 1 (List.map cI64 z4)))) (.t (.own 3 1 (List.map cI64 z4))) (g0 rfl) rfl rfl rfl ?_
     refine o_2 (.t (.d (.seq 1 (List.map cI64 z4)))) (.t (.own 3 1 (List.map cI64 z4))) (g0 rfl) rfl rfl rfl ?_
     refine o_1 (.i 11) rfl ?_
     refine o_nil (c_ret ?_)
     obtain rfl := Option.some.inj h
     exact ⟨⟨_, rfl, (.tup (.cons .r (.cons .r .nil)))⟩, ⟨rfl, trivial⟩, rfl⟩
    refine o_s (.ref 10 0) (gy rfl rfl rfl h13) rfl rfl rfl ?_
    refine o_s (.s x11.1.Key) (gy rfl rfl rfl h13) rfl rfl rfl ?_
    obtain ⟨x14, h15, h⟩ := bind_some h
    refine o_ca (fc_R20_Bucket _ _ h15) (gy rfl rfl rfl h13) rfl rfl rfl rfl rfl rfl rfl (.cons .r .nil) rfl rfl ?_
    refine o_s (.i p2) (gy rfl rfl rfl h13) rfl rfl rfl ?_
    refine o_s (.b (x14 != p2)) (gy rfl rfl rfl h13) rfl rfl rfl ?_
    refine o_pk (.b (x14 != p2)) (b := false) h13 (g0 rfl) rfl rfl rfl rfl rfl ?_
    refine o_1 (.b (x14 != p2)) rfl ?_
    rcases bif_some h with ⟨h16, h⟩ | ⟨h16, h⟩
    ·
     refine o_skip rfl rfl rfl h16 rfl rfl ?_
     refine o_skip rfl rfl rfl h16 rfl rfl ?_
     refine o_skip rfl rfl rfl h16 rfl rfl ?_
     refine o_pk (.b true) (b := true) h16 (g0 rfl) rfl rfl rfl rfl rfl ?_
     refine o_nil ?_
     refine c_t rfl rfl ?_
     refine c_sr ?_
     refine o_2 (.t (.d (.seq 1 (List.map cI64 z4)))) (.t (.own 3 1 (List.map cI64 z4))) (g0 rfl) rfl rfl rfl ?_
     refine o_2 (.t (.d (.seq 1 (List.map cI64 z4)))) (.t (.own 3 1 (List.map cI64 z4))) (g0 rfl) rfl rfl rfl ?_
     refine o_1 (.i 11) rfl ?_
     refine o_nil (c_ret ?_)
     obtain rfl := Option.some.inj h
     exact ⟨⟨_, rfl, (.tup (.cons .r (.cons .r .nil)))⟩, ⟨rfl, trivial⟩, rfl⟩
    refine o_s (.t (.d (.seq 1 (List.map cI64 z4)))) (gy rfl rfl rfl h16) rfl rfl rfl ?_
    refine o_c (gy rfl rfl rfl h16) rfl rfl rfl (lenE _ _) trivial ?_
    refine o_s (.b (decide ((z4.length : Int) ≥ 16384))) (gy rfl rfl rfl h16) rfl rfl rfl ?_
    refine o_pk (.b (decide ((z4.length : Int) ≥ 16384))) (b := false) h16 (g0 rfl) rfl rfl rfl rfl rfl ?_
    refine o_nil ?_
    rcases bif_some h with ⟨h17, h⟩ | ⟨h17, h⟩
    ·
     refine c_t h17 rfl ?_
     refine c_sr ?_
     refine o_2 (.t (.d (.seq 1 (List.map cI64 z4)))) (.t (.own 3 1 (List.map cI64 z4))) (g0 rfl) rfl rfl rfl ?_
     refine o_2 (.t (.d (.seq 1 (List.map cI64 z4)))) (.t (.own 3 1 (List.map cI64 z4))) (g0 rfl) rfl rfl rfl ?_
     refine o_1 (.i 11) rfl ?_
     refine o_nil (c_ret ?_)
     obtain rfl := Option.some.inj h
     exact ⟨⟨_, rfl, (.tup (.cons .r (.cons .r .nil)))⟩, ⟨rfl, trivial⟩, rfl⟩
    refine c_f h17 rfl ?_
    refine c_skip (c_sr ?_)
    refine o_2 (.t (.d (.seq 1 (List.map cI64 z4)))) (.t (.own 3 1 (List.map cI64 z4))) (g0 rfl) rfl rfl rfl ?_
    refine o_m2 (.i z5) (.t (.own 3 1 (List.map cI64 [z5]))) rfl ?_
    obtain ⟨x18, h19, h⟩ := bind_some h
    refine o_2c (g0 rfl) rfl rfl rfl (appE (c := cI64) h19) (appC (c := cI64) h19) ?_
    refine o_2 (.t (.d (.seq 1 (List.map cI64 x18)))) (.t (.own 3 1 (List.map cI64 x18))) (g0 rfl) rfl rfl rfl ?_
    refine o_nil (c_region ?_)
    refine o_m2 (.i x11.2.1) (.i x11.2.1) rfl ?_
    refine o_nil ?_
    exact ⟨nl2, (x18, x11.2.1), [], Nat.lt_succ_self nl2, h, rfl, ⟨.inr ⟨_, rfl, pure_hpA _⟩, by (repeat (first | exact ObP.nil | refine ObP.cons (.inl rfl) ?_ | refine ObP.cons (.inr (fun _ => rfl)) ?_ | refine ObP.cons (.inr (ob_box (fl_noPt _ _))) ?_ | refine ObP.cons (.inr (ob_gb _ _)) ?_))⟩, ⟨.r, .r, .r, .r, .r, .r, trivial⟩, rfl⟩
   refine c_f h6 rfl ?_
   refine c_exit ?_
   exact ⟨z4, [], h, rfl, ⟨.inr ⟨_, rfl, pure_hpA _⟩, by (repeat (first | exact ObP.nil | refine ObP.cons (.inl rfl) ?_ | refine ObP.cons (.inr (fun _ => rfl)) ?_ | refine ObP.cons (.inr (ob_box (fl_noPt _ _))) ?_ | refine ObP.cons (.inr (ob_gb _ _)) ?_))⟩, ⟨.r, .r, .r, .r, trivial⟩, rfl⟩
 rintro y3 h
 refine c_sr ?_
 refine o_2 (.t (.d (.seq 1 (List.map cI64 y3)))) (.t (.own 3 1 (List.map cI64 y3))) (g0 rfl) rfl rfl rfl ?_
 refine o_2 (.t (.d (.seq 1 (List.map cI64 y3)))) (.t (.own 3 1 (List.map cI64 y3))) (g0 rfl) rfl rfl rfl ?_
 refine o_1 (.i 0) rfl ?_
 refine o_nil (c_ret ?_)
 obtain rfl := Option.some.inj h
 exact ⟨⟨_, rfl, (.tup (.cons .r (.cons .r .nil)))⟩, ⟨rfl, trivial⟩, rfl⟩
theorem fch_L20_used_v0 (p0 : (List (List UInt8))) (p1 : Int) (w0 : Hp) (r : Bool) (h : m_L20_used p0 p1 = some r) : FCH Try.prog 44 [.t (.view 0 0 41 1 p0.length), .t (.d (.lit (.int .i64 p1)))] [.box (fl (dT (cSl 1 cU8)) p0)] [.box (fl (dT (cSl 1 cU8)) p0)] (hpA w0) (hpA w0) (.t (.d (.lit (.bool r)))) := by
 refine fch_mk (rs := [.tmp 4]) (n := 30) [] Try.func44 rfl rfl (Nat.le_of_ble_eq_true rfl) rfl (pins := [OB + 0]) rfl (L := [(HK, .hp (hpA w0)), (OB + 0, .box (fl (dT (cSl 1 cU8)) p0)), (0, .t (.view 0 0 41 1 p0.length)), (1, .i p1)]) rfl ?_
 refine c_sr ?_
 refine o_1 (.b false) rfl ?_
 refine o_nil (c_seq (c_sr ?_))
 refine o_1 (.i 0) rfl ?_
 refine o_nil (c_block ?_)
 refine c_fuelH (fun (z1 : Int) => [(0, .t (.view 0 0 41 1 p0.length)), (1, .i p1), (10, .i z1), ((OB + 0), .box (fl (dT (cSl 1 cU8)) p0)), (HK, .hp (hpA w0))]) (fun nl1 => (fun (z1 : Int) => m_L20_used_l1 p0 p1 nl1 z1 = some r)) (Int.toNat 64 + 1) 0 [] h rfl ⟨.inr ⟨_, rfl, pure_hpA _⟩, by (repeat (first | exact ObP.nil | refine ObP.cons (.inl rfl) ?_ | refine ObP.cons (.inr (fun _ => rfl)) ?_ | refine ObP.cons (.inr (ob_box (fl_noPt _ _))) ?_ | refine ObP.cons (.inr (ob_gb _ _)) ?_))⟩ ⟨.r, .r, .r, .r, .r, trivial⟩ rfl ?_
 rintro nl1 z1 h
 cases nl1 with
 | zero => exact none_ne h
 | succ nl1 =>
  refine c_sr ?_
  refine o_1 (.b (decide (z1 < 64))) rfl ?_
  refine o_nil (c_seq ?_)
  rcases bif_some h with ⟨h2, h⟩ | ⟨h2, h⟩
  ·
   refine c_t h2 rfl ?_
   refine c_skip (c_seq (c_block (c_sr ?_)))
   refine o_m2 (.i z1) (.i z1) rfl ?_
   refine o_nil (c_sr ?_)
   refine o_m2 (.t (.view 0 0 41 1 p0.length)) (.i z1) rfl ?_
   obtain ⟨x3, h4, h⟩ := bind_some h
   refine o_of (e := [((OB + 0), .box (fl (dT (cSl 1 cU8)) p0)), (16, .tup [.d (.seq 1 (List.map cI64 x3.1)), .i x3.2])]) (g0 rfl) (h_callR mR rfl (σ := [0]) (fr := []) rfl rfl rfl rfl rfl rfl rfl (fch_R20_Walk_v0 _ _ _ w0 _ h4) (pure_hpA _) rfl (by simp [A.flatO, fl_noPt]) (by simp [A.flatO, fl_noPt]) rfl (.cons (argVw rfl rfl rfl) (.cons (.plain .r rfl) (.cons (.plain .r rfl) .nil))) rfl (.tup (.cons (.flat rfl) (.cons (.flat rfl) .nil)))) rfl ?_
   refine o_m5 (.tup [.d (.seq 1 (List.map cI64 x3.1)), .i x3.2]) (.t (.d (.seq 1 (List.map cI64 x3.1)))) (.i x3.2) (.t (.d (.seq 1 (List.map cI64 x3.1)))) (.i x3.2) rfl ?_
   refine o_nil (c_sr ?_)
   refine o_1 (.t (.d (.seq 1 (List.map cI64 x3.1)))) rfl ?_
   refine o_c (g0 rfl) rfl rfl rfl (lenE _ _) trivial ?_
   refine o_1 (.i 0) rfl ?_
   refine o_nil (c_block ?_)
   refine c_fuelH (fun (z5 : Int) => [(0, .t (.view 0 0 41 1 p0.length)), (1, .i p1), (10, .i z1), (19, .t (.d (.seq 1 (List.map cI64 x3.1)))), (20, .i (x3.1.length : Int)), (21, .i z5), ((OB + 0), .box (fl (dT (cSl 1 cU8)) p0)), (HK, .hp (hpA w0))]) (fun nl2 => (fun (z5 : Int) => m_L20_used_l2 (m_L20_used_l1 p0 p1 nl1) x3 p1 z1 nl2 z5 = some r)) (x3.1.length + 1) 0 [] h rfl ⟨.inr ⟨_, rfl, pure_hpA _⟩, by (repeat (first | exact ObP.nil | refine ObP.cons (.inl rfl) ?_ | refine ObP.cons (.inr (fun _ => rfl)) ?_ | refine ObP.cons (.inr (ob_box (fl_noPt _ _))) ?_ | refine ObP.cons (.inr (ob_gb _ _)) ?_))⟩ ⟨.r, .r, .r, .r, .r, .r, .r, .r, trivial⟩ rfl ?_
   rintro nl2 z5 h
   cases nl2 with
   | zero => exact none_ne h
   | succ nl2 =>
    refine c_sr ?_
    refine o_1 (.b (decide (z5 < (x3.1.length : Int)))) rfl ?_
    refine o_nil (c_seq ?_)
    rcases bif_some h with ⟨h6, h⟩ | ⟨h6, h⟩
    ·
     refine c_t h6 rfl ?_
     refine c_skip (c_seq (c_block (c_sr ?_)))
     obtain ⟨x7, h8, h⟩ := bind_some h
     refine o_c (g0 rfl) rfl rfl rfl (idxE h8) (idxC h8) ?_
     refine o_m2 (.i x7) (.i x7) rfl ?_
     refine o_nil (c_sr ?_)
     refine o_m3 (.i x7) (.i p1) (.b (x7 == p1)) rfl ?_
     refine o_nil ?_
     rcases bif_some h with ⟨h9, h⟩ | ⟨h9, h⟩
     ·
      refine c_t h9 rfl ?_
      refine c_sr ?_
      refine o_1 (.b true) rfl ?_
      refine o_nil (c_ret ?_)
      obtain rfl := Option.some.inj h
      exact ⟨⟨_, rfl, .r⟩, ⟨rfl, trivial⟩, rfl⟩
     refine c_f h9 rfl ?_
     refine c_skip (c_region ?_)
     refine o_m2 (.i (wi (z5 + 1))) (.i (wi (z5 + 1))) rfl ?_
     refine o_nil ?_
     exact ⟨nl2, (wi (z5 + 1)), [], Nat.lt_succ_self nl2, h, rfl, ⟨.inr ⟨_, rfl, pure_hpA _⟩, by (repeat (first | exact ObP.nil | refine ObP.cons (.inl rfl) ?_ | refine ObP.cons (.inr (fun _ => rfl)) ?_ | refine ObP.cons (.inr (ob_box (fl_noPt _ _))) ?_ | refine ObP.cons (.inr (ob_gb _ _)) ?_))⟩, ⟨.r, .r, .r, .r, .r, .r, .r, .r, trivial⟩, rfl⟩
    refine c_f h6 rfl ?_
    refine c_exit (c_region ?_)
    refine o_m2 (.i (wi (z1 + 1))) (.i (wi (z1 + 1))) rfl ?_
    refine o_nil ?_
    exact ⟨nl1, (wi (z1 + 1)), [], Nat.lt_succ_self nl1, h, rfl, ⟨.inr ⟨_, rfl, pure_hpA _⟩, by (repeat (first | exact ObP.nil | refine ObP.cons (.inl rfl) ?_ | refine ObP.cons (.inr (fun _ => rfl)) ?_ | refine ObP.cons (.inr (ob_box (fl_noPt _ _))) ?_ | refine ObP.cons (.inr (ob_gb _ _)) ?_))⟩, ⟨.r, .r, .r, .r, .r, trivial⟩, rfl⟩
  refine c_f h2 rfl ?_
  refine c_exit (c_sr ?_)
  refine o_1 (.b false) rfl ?_
  refine o_nil (c_ret ?_)
  obtain rfl := Option.some.inj h
  exact ⟨⟨_, rfl, .r⟩, ⟨rfl, trivial⟩, rfl⟩
theorem fch_R20_Find_v0 (p0 : (List (List UInt8))) (p1 : Int) (p2 : (List UInt8)) (w0 : Hp) (r : (Int × Int)) (h : m_R20_Find p0 p1 p2 = some r) : FCH Try.prog 52 [.t (.view 0 0 41 1 p0.length), .t (.d (.lit (.int .i64 p1))), .t (.d (.lit (.string ⟨⟨p2⟩⟩)))] [.box (fl (dT (cSl 1 cU8)) p0)] [.box (fl (dT (cSl 1 cU8)) p0)] (hpA w0) (hpA w0) (.tup [.d (.lit (.int .i64 r.1)), .d (.lit (.int .i64 r.2))]) := by
 refine fch_mk (rs := [.tmp 6, .tmp 7]) (n := 54) [] Try.func52 rfl rfl (Nat.le_of_ble_eq_true rfl) rfl (pins := [OB + 0]) rfl (L := [(HK, .hp (hpA w0)), (OB + 0, .box (fl (dT (cSl 1 cU8)) p0)), (0, .t (.view 0 0 41 1 p0.length)), (1, .i p1), (2, .s p2)]) rfl ?_
 refine c_sr ?_
 refine o_m2 (.i 0) (.i 0) rfl ?_
 refine o_nil (c_seq (c_sr ?_))
 refine o_1 (.s p2) rfl ?_
 obtain ⟨x1, h2, h⟩ := bind_some h
 refine o_ca (fc_R20_Key _ _ h2) (g0 rfl) rfl rfl rfl rfl rfl rfl rfl (.cons .r .nil) rfl rfl ?_
 refine o_1 (.b (!x1)) rfl ?_
 refine o_nil ?_
 rcases bif_some h with ⟨h3, h⟩ | ⟨h3, h⟩
 ·
  refine c_t h3 rfl ?_
  refine c_sr ?_
  refine o_m2 (.i 0) (.i 2) rfl ?_
  refine o_nil (c_ret ?_)
  obtain rfl := Option.some.inj h
  exact ⟨⟨_, rfl, (.tup (.cons .r (.cons .r .nil)))⟩, ⟨rfl, trivial⟩, rfl⟩
 refine c_f h3 rfl ?_
 refine c_skip (c_sr ?_)
 refine o_m3 (.t (.view 0 0 41 1 p0.length)) (.i p1) (.s p2) rfl ?_
 obtain ⟨x4, h5, h⟩ := bind_some h
 refine o_ca (fc_R20_Bucket _ _ h5) (g0 rfl) rfl rfl rfl rfl rfl rfl rfl (.cons .r .nil) rfl rfl ?_
 obtain ⟨x6, h7, h⟩ := bind_some h
 refine o_of (e := [((OB + 0), .box (fl (dT (cSl 1 cU8)) p0)), (22, .tup [.d (.seq 1 (List.map cI64 x6.1)), .i x6.2])]) (g0 rfl) (h_callR mR rfl (σ := [0]) (fr := []) rfl rfl rfl rfl rfl rfl rfl (fch_R20_Walk_v0 _ _ _ w0 _ h7) (pure_hpA _) rfl (by simp [A.flatO, fl_noPt]) (by simp [A.flatO, fl_noPt]) rfl (.cons (argVw rfl rfl rfl) (.cons (.plain .r rfl) (.cons (.plain .r rfl) .nil))) rfl (.tup (.cons (.flat rfl) (.cons (.flat rfl) .nil)))) rfl ?_
 refine o_m5 (.tup [.d (.seq 1 (List.map cI64 x6.1)), .i x6.2]) (.t (.d (.seq 1 (List.map cI64 x6.1)))) (.i x6.2) (.t (.d (.seq 1 (List.map cI64 x6.1)))) (.i x6.2) rfl ?_
 refine o_nil ?_
 refine c_cutH (fun (_ : Unit) => [(0, .t (.view 0 0 41 1 p0.length)), (9, .i x6.2), ((OB + 0), .box (fl (dT (cSl 1 cU8)) p0)), (HK, .hp (hpA w0))]) (fun (_ : Unit) => m_R20_Find_j1 x6 = some r) ?_ ?_
 ·
  refine c_sr ?_
  refine o_1 (.i 0) rfl ?_
  refine o_nil (c_block ?_)
  refine c_fuelH (fun (z9 : Int) => [(0, .t (.view 0 0 41 1 p0.length)), (2, .s p2), (8, .t (.d (.seq 1 (List.map cI64 x6.1)))), (9, .i x6.2), (10, .i z9), ((OB + 0), .box (fl (dT (cSl 1 cU8)) p0)), (HK, .hp (hpA w0))]) (fun nl2 => (fun (z9 : Int) => m_R20_Find_l2 x6 p0 p2 nl2 z9 = some r)) (x6.1.length + 1) 0 [] h rfl ⟨.inr ⟨_, rfl, pure_hpA _⟩, by (repeat (first | exact ObP.nil | refine ObP.cons (.inl rfl) ?_ | refine ObP.cons (.inr (fun _ => rfl)) ?_ | refine ObP.cons (.inr (ob_box (fl_noPt _ _))) ?_ | refine ObP.cons (.inr (ob_gb _ _)) ?_))⟩ ⟨.r, .r, .r, .r, .r, .r, .r, trivial⟩ rfl ?_
  rintro nl2 z9 h
  cases nl2 with
  | zero => exact none_ne h
  | succ nl2 =>
   refine c_seq (c_sr ?_)
   refine o_m2 (.i z9) (.t (.d (.seq 1 (List.map cI64 x6.1)))) rfl ?_
   refine o_c (g0 rfl) rfl rfl rfl (lenE _ _) trivial ?_
   refine o_1 (.b (decide (z9 < (x6.1.length : Int)))) rfl ?_
   refine o_nil ?_
   rcases bif_some h with ⟨h10, h⟩ | ⟨h10, h⟩
   ·
    refine c_t h10 rfl ?_
    refine c_skip (c_seq (c_block (c_sr ?_)))
    refine o_m3 (.t (.view 0 0 41 1 p0.length)) (.t (.d (.seq 1 (List.map cI64 x6.1)))) (.i z9) rfl ?_
    obtain ⟨x11, h12, h⟩ := bind_some h
    refine o_c (g0 rfl) rfl rfl rfl (idxE h12) (idxC h12) ?_
    refine o_1 (.i x11) rfl ?_
    obtain ⟨x13, h14, h⟩ := bind_some h
    refine o_of (e := [(37, .ref (OB + 0) (0 + Int.toNat x11 * 1))]) (g0 rfl) (h_lix mR rfl rfl rfl rfl rfl (idxV rfl h14) rfl rfl rfl) rfl ?_
    refine o_of (e := [(38, .y x13)]) (g0 rfl) (h_lld mR rfl rfl rfl rfl (fl_at h14 rfl (fun _ => rfl)) rfl rfl rfl) rfl ?_
    obtain ⟨x15, h16, h⟩ := bind_some h
    refine o_ca (fc_R20_Read _ _ h16) (g0 rfl) rfl rfl rfl rfl rfl rfl rfl (.cons .r .nil) rfl rfl ?_
    refine o_m5 (.tup [.agg [.s x15.1.Key, .i x15.1.Version, .i x15.1.Len, .i x15.1.First], .i x15.2.1, .b x15.2.2]) (.t (.agg [.s x15.1.Key, .i x15.1.Version, .i x15.1.Len, .i x15.1.First])) (.i x15.2.1) (.b x15.2.2) (.box [.s [], .i 0, .i 0, .i 0]) rfl ?_
    refine o_st (.box [.s x15.1.Key, .i x15.1.Version, .i x15.1.Len, .i x15.1.First]) (g0 rfl) rfl rfl rfl ?_
    refine o_m2 (.i x15.2.1) (.b x15.2.2) rfl ?_
    refine o_nil (c_sr ?_)
    refine o_m3 (.ref 11 0) (.s x15.1.Key) (.s p2) rfl ?_
    refine o_c (g0 rfl) rfl rfl rfl (congrArg (fun z => A.b z) (str_beqL _ _)) trivial ?_
    refine o_nil ?_
    rcases bif_some h with ⟨h17, h⟩ | ⟨h17, h⟩
    ·
     refine c_t h17 rfl ?_
     refine c_sr ?_
     refine o_m2 (.t (.d (.seq 1 (List.map cI64 x6.1)))) (.i z9) rfl ?_
     obtain ⟨x18, h19, h⟩ := bind_some h
     refine o_c (g0 rfl) rfl rfl rfl (idxE h19) (idxC h19) ?_
     refine o_m3 (.i x18) (.i x18) (.i 0) rfl ?_
     refine o_nil (c_ret ?_)
     obtain rfl := Option.some.inj h
     exact ⟨⟨_, rfl, (.tup (.cons .r (.cons .r .nil)))⟩, ⟨rfl, trivial⟩, rfl⟩
    refine c_f h17 rfl ?_
    refine c_skip (c_region ?_)
    refine o_m3 (.i z9) (.i (wi (z9 + 1))) (.i (wi (z9 + 1))) rfl ?_
    refine o_nil ?_
    exact ⟨nl2, (wi (z9 + 1)), [], Nat.lt_succ_self nl2, h, rfl, ⟨.inr ⟨_, rfl, pure_hpA _⟩, by (repeat (first | exact ObP.nil | refine ObP.cons (.inl rfl) ?_ | refine ObP.cons (.inr (fun _ => rfl)) ?_ | refine ObP.cons (.inr (ob_box (fl_noPt _ _))) ?_ | refine ObP.cons (.inr (ob_gb _ _)) ?_))⟩, ⟨.r, .r, .r, .r, .r, .r, .r, trivial⟩, rfl⟩
   refine c_f h10 rfl ?_
   refine c_exit ?_
   exact ⟨(), [], h, rfl, ⟨.inr ⟨_, rfl, pure_hpA _⟩, by (repeat (first | exact ObP.nil | refine ObP.cons (.inl rfl) ?_ | refine ObP.cons (.inr (fun _ => rfl)) ?_ | refine ObP.cons (.inr (ob_box (fl_noPt _ _))) ?_ | refine ObP.cons (.inr (ob_gb _ _)) ?_))⟩, ⟨.r, .r, .r, .r, trivial⟩, rfl⟩
 rintro ⟨⟩ h
 refine c_seq (c_sr ?_)
 refine o_m2 (.i x6.2) (.b (x6.2 != 0)) rfl ?_
 refine o_nil ?_
 rcases bif_some h with ⟨h8, h⟩ | ⟨h8, h⟩
 ·
  refine c_t h8 rfl ?_
  refine c_sr ?_
  refine o_m3 (.i x6.2) (.i 0) (.i x6.2) rfl ?_
  refine o_nil (c_ret ?_)
  obtain rfl := Option.some.inj h
  exact ⟨⟨_, rfl, (.tup (.cons .r (.cons .r .nil)))⟩, ⟨rfl, trivial⟩, rfl⟩
 refine c_f h8 rfl ?_
 refine c_skip (c_sr ?_)
 refine o_m2 (.i 0) (.i 35) rfl ?_
 refine o_nil (c_ret ?_)
 obtain rfl := Option.some.inj h
 exact ⟨⟨_, rfl, (.tup (.cons .r (.cons .r .nil)))⟩, ⟨rfl, trivial⟩, rfl⟩
theorem fch_R20_name_v0 (p0 : (List (List UInt8))) (p1 : Int) (p2 : Int) (p3 : Int) (p4 : Int) (w0 : Hp) (r : (List (List UInt8))) (h : m_R20_name_v0 p0 p1 p2 p3 p4 = some r) : FCH Try.prog 98 [.t (.view 0 0 41 1 p0.length), .t (.d (.lit (.int .i64 p1))), .t (.d (.lit (.int .i64 p2))), .t (.d (.lit (.int .i64 p3))), .t (.d (.lit (.int .i64 p4)))] [.box (fl (dT (cSl 1 cU8)) p0)] [.box (fl (dT (cSl 1 cU8)) r)] (hpA w0) (hpA w0) (.tup []) := by
 refine fch_mk (rs := []) (n := 56) [1] Try.func98 rfl rfl (Nat.le_of_ble_eq_true rfl) rfl (pins := [OB + 0]) rfl (L := [(HK, .hp (hpA w0)), (OB + 1, .free), (OB + 0, .box (fl (dT (cSl 1 cU8)) p0)), (0, .t (.view 0 0 41 1 p0.length)), (1, .i p1), (2, .i p2), (3, .i p3), (4, .i p4)]) rfl ?_
 refine c_sr ?_
 refine o_m5 (.i p1) (.i p2) (.i (wi (Int.tdiv p2 16))) (.i (wi (p1 + (wi (Int.tdiv p2 16))))) (.i (wi (p1 + (wi (Int.tdiv p2 16))))) rfl ?_
 refine o_nil (c_sr ?_)
 refine o_m4 (.i p2) (.i (Int.tmod p2 16)) (.i (wi (4 * (Int.tmod p2 16)))) (.i (wi (4 * (Int.tmod p2 16)))) rfl ?_
 refine o_nil (c_block ?_)
 refine c_fuelH (fun (q : Int × Int) => [(0, .t (.view 0 0 41 1 p0.length)), (3, .i p3), (4, .i p4), (10, .i q.1), (11, .i q.2), ((OB + 0), .box (fl (dT (cSl 1 cU8)) p0)), (HK, .hp (hpA w0)), (OB + 1, .free)]) (fun nl1 => (fun (q : Int × Int) => m_R20_name_v0_l1 p0 p3 p4 nl1 q.1 q.2 = some r)) (16400) ((wi (p1 + (wi (Int.tdiv p2 16)))), (wi (4 * (Int.tmod p2 16)))) [] h rfl ⟨.inr ⟨_, rfl, pure_hpA _⟩, by (repeat (first | exact ObP.nil | refine ObP.cons (.inl rfl) ?_ | refine ObP.cons (.inr (fun _ => rfl)) ?_ | refine ObP.cons (.inr (ob_box (fl_noPt _ _))) ?_ | refine ObP.cons (.inr (ob_gb _ _)) ?_))⟩ ⟨.r, .r, .r, .r, .r, .r, .r, .r, trivial⟩ (by ((refine nr_of ?_; repeat (first | exact nr_nil | refine nr_cons rfl ?_ | refine nr_cons (nr_gb _ _ _) ?_)))) ?_
 rintro nl1 ⟨z1, z2⟩ h
 cases nl1 with
 | zero => exact none_ne h
 | succ nl1 =>
  refine c_block (c_sr ?_)
  refine o_m2 (.t (.view 0 0 41 1 p0.length)) (.i z1) rfl ?_
  obtain ⟨x3, h4, h⟩ := bind_some h
  refine o_of (e := [(25, .ref (OB + 0) (0 + Int.toNat z1 * 1))]) (g0 rfl) (h_lix mR rfl rfl rfl rfl rfl (idxV rfl h4) rfl rfl rfl) rfl ?_
  refine o_of (e := [(26, .y x3)]) (g0 rfl) (h_lld mR rfl rfl rfl rfl (fl_at h4 rfl (fun _ => rfl)) rfl rfl rfl) rfl ?_
  refine o_m3 (.i z2) (.i z2) (.i (wi (z2 + 4))) rfl ?_
  obtain ⟨x5, h6, h⟩ := bind_some h
  refine o_c (g0 rfl) rfl rfl rfl (cutE (c := cU8) h6) (cutC (c := cU8) h6) ?_
  obtain ⟨x7, h8, h⟩ := bind_some h
  refine o_ca (fc_R01_Get _ _ h8) (g0 rfl) rfl rfl rfl rfl rfl rfl rfl (.cons .r .nil) rfl rfl ?_
  refine o_m5 (.tup [.i x7.1, .i x7.2]) (.i x7.1) (.i x7.2) (.i x7.1) (.i x7.2) rfl ?_
  refine o_nil (c_seq (c_sr ?_))
  refine o_m3 (.i x7.1) (.i p3) (.b (x7.1 == p3)) rfl ?_
  refine o_nil ?_
  rcases bif_some h with ⟨h9, h⟩ | ⟨h9, h⟩
  ·
   refine c_t h9 rfl ?_
   refine c_sr ?_
   refine o_of (e := [(37, .t (.view 1 0 5 1 0))]) (g0 rfl) (h_b0v rfl rfl rfl rfl) rfl ?_
   refine o_m2 (.t (.view 0 0 41 1 p0.length)) (.i z1) rfl ?_
   obtain ⟨x10, h11, h⟩ := bind_some h
   refine o_of (e := [(40, .ref (OB + 0) (0 + Int.toNat z1 * 1))]) (g0 rfl) (h_lix mR rfl rfl rfl rfl rfl (idxV rfl h11) rfl rfl rfl) rfl ?_
   refine o_of (e := [(41, .y x10)]) (g0 rfl) (h_lld mR rfl rfl rfl rfl (fl_at h11 rfl (fun _ => rfl)) rfl rfl rfl) rfl ?_
   rcases bif_some h with ⟨h12, h⟩ | ⟨h12, h⟩
   ·
    exact none_ne h
   obtain ⟨x13, h14, h⟩ := bind_some h
   refine o_of (e := [(37, .any), ((OB + 1), gbA cU8 x13), (42, .t (.view 1 0 5 1 x13.length))]) (g0 rfl) (h_apgI (c := cU8) mR [37] h14 rfl rfl rfl rfl (fun _ => rfl) rfl (isE_pos h12) rfl rfl rfl (NoM.get (by (repeat (first | exact NoM.nil | refine NoM.skip rfl ?_ | refine NoM.cons rfl ?_ | refine NoM.cons (ptT_ment _ _ _) ?_ | refine NoM.cons (ob_box (fl_noPt _ _) _) ?_ | refine NoM.cons (ob_gb _ _ _) ?_)))) (.inr ⟨_, rfl, pure_hpA _⟩) rfl) rfl ?_
   refine o_1 (.t (.view 1 0 5 1 x13.length)) rfl ?_
   refine o_nil (c_seq ?_)
   refine c_draw mixed (by kernel_rfl) ?_
   refine d_s (.t (.view 1 0 5 1 x13.length)) rfl (dg0 rfl) rfl rfl rfl rfl ?_
   refine d_s (.i z2) rfl (dg0 rfl) rfl rfl rfl rfl ?_
   refine d_s (.i z2) rfl (dg0 rfl) rfl rfl rfl rfl ?_
   refine d_s (.i (wi (z2 + 4))) rfl (dg0 rfl) rfl rfl rfl rfl ?_
   obtain ⟨x15, h16, h⟩ := bind_some h
   refine d_h0 [] (e := [(47, .t (.view 1 (0 + Int.toNat z2 * 1) 5 1 (Int.toNat (wi (z2 + 4)) - Int.toNat z2)))]) (ks := [47]) rfl (dg0 rfl) rfl rfl (fun S' hM hok => h_lsl hM rfl rfl rfl rfl rfl rfl rfl (vcut_iff h16) rfl rfl rfl (hok _ rfl rfl)) rfl ?_
   refine d_s (.i p4) rfl (dg0 rfl) rfl rfl rfl rfl ?_
   obtain ⟨x17, h18, h⟩ := bind_some h
   refine d_ca (fc_R20_number _ _ _ h18) rfl (dg0 rfl) rfl rfl rfl rfl rfl rfl rfl rfl (.cons .r (.cons .r .nil)) rfl rfl ?_
   rcases bif_some h with ⟨h19, h⟩ | ⟨h19, h⟩
   ·
    exact none_ne h
   obtain ⟨x20, h21, h⟩ := bind_some h
   refine d_h0 [OB + 1] (e := [((OB + 1), .box (fl (dT cU8) x20)), (50, .i ((min x17.length (Int.toNat (wi (z2 + 4)) - Int.toNat z2) : Nat) : Int))]) (ks := [(OB + 1), 50]) rfl (dg0 rfl) rfl rfl (fun S' hM hok => h_cpy (cc := cU8) (yl := x17) hM rfl rfl rfl rfl rfl (gb_ne (isE_ne h19)) (fun _ => rfl) rfl h21 rfl rfl (hok _ rfl rfl)) rfl ?_
   obtain ⟨x22, h23, h⟩ := bind_some h
   have h23 : x20.length = x13.length := lenI_eq h23
   refine d_nil (by kernel_rfl) ?_
   refine c_seq ?_
   refine c_frz 14 1 rfl rfl (by first | (simp; done) | (rw [List.length_map]; omega)) (fl_flat _ _) (map_row (c := cU8) (fun _ => rfl) _) rfl ⟨.inr ⟨_, rfl, pure_hpA _⟩, by (repeat (first | exact ObP.nil | refine ObP.cons (.inl rfl) ?_ | refine ObP.cons (.inr (fun _ => rfl)) ?_ | refine ObP.cons (.inr (ob_box (fl_noPt _ _))) ?_ | refine ObP.cons (.inr (ob_gb _ _)) ?_))⟩ rfl ?_
   refine c_region ?_
   refine o_m3 (.t (.view 0 0 41 1 p0.length)) (.i z1) (.y x20) rfl ?_
   obtain ⟨x24, h25, h⟩ := bind_some h
   refine o_of (e := [(54, .ref (OB + 0) (0 + Int.toNat z1 * 1))]) (g0 rfl) (h_lix mR rfl rfl rfl rfl rfl (idxV rfl h25) rfl rfl rfl) rfl ?_
   refine o_of (e := [((OB + 0), .box (fl (dT (cSl 1 cU8)) (p0.set (Int.toNat z1) x20)))]) (g0 rfl) (h_lst mR rfl rfl rfl rfl rfl rfl rfl (fl_room h25 (fun _ => rfl)) (fl_put h25 x20 (fun _ => rfl) rfl)) rfl ?_
   refine o_nil (c_ret ?_)
   obtain rfl := Option.some.inj h
   exact ⟨⟨_, rfl, .r⟩, ⟨rfl, trivial⟩, rfl⟩
  refine c_f h9 rfl ?_
  refine c_skip (c_sr ?_)
  refine o_m2 (.i x7.1) (.i x7.1) rfl ?_
  refine o_nil (c_region ?_)
  refine o_1 (.i 0) rfl ?_
  refine o_nil ?_
  exact ⟨nl1, (x7.1, 0), [], Nat.lt_succ_self nl1, h, rfl, ⟨.inr ⟨_, rfl, pure_hpA _⟩, by (repeat (first | exact ObP.nil | refine ObP.cons (.inl rfl) ?_ | refine ObP.cons (.inr (fun _ => rfl)) ?_ | refine ObP.cons (.inr (ob_box (fl_noPt _ _))) ?_ | refine ObP.cons (.inr (ob_gb _ _)) ?_))⟩, ⟨.r, .r, .r, .r, .r, .r, .r, .r, trivial⟩, (by ((refine nr_of ?_; repeat (first | exact nr_nil | refine nr_cons rfl ?_ | refine nr_cons (nr_gb _ _ _) ?_))))⟩
theorem fch_R20_Put_v0 (p0 : (List (List UInt8))) (p1 : Int) (p2 : Int) (p3 : S_api_Entry) (w0 : Hp) (r : (Int × (List (List UInt8)))) (h : m_R20_Put_v0 p0 p1 p2 p3 = some r) : FCH Try.prog 46 [.t (.view 0 0 41 1 p0.length), .t (.d (.lit (.int .i64 p1))), .t (.d (.lit (.int .i64 p2))), .t (.agg [.lit (.string ⟨⟨p3.Key⟩⟩), .lit (.int .i64 p3.Version), .lit (.int .i64 p3.Len), .lit (.int .i64 p3.First)])] [.box (fl (dT (cSl 1 cU8)) p0)] [.box (fl (dT (cSl 1 cU8)) r.2)] (hpA w0) (hpA w0) (.t (.d (.lit (.int .i64 r.1)))) := by
 refine fch_mk (rs := [.tmp 8]) (n := 63) [] Try.func46 rfl rfl (Nat.le_of_ble_eq_true rfl) rfl (pins := [OB + 0]) rfl (L := [(HK, .hp (hpA w0)), (OB + 0, .box (fl (dT (cSl 1 cU8)) p0)), (0, .t (.view 0 0 41 1 p0.length)), (1, .i p1), (2, .i p2), (3, .t (.agg [.s p3.Key, .i p3.Version, .i p3.Len, .i p3.First]))]) rfl ?_
 refine c_sr ?_
 refine o_m2 (.box [.s p3.Key, .i p3.Version, .i p3.Len, .i p3.First]) (.i 0) rfl ?_
 refine o_nil ?_
 refine c_cutH (fun (_ : Unit) => [(0, .t (.view 0 0 41 1 p0.length)), (1, .i p1), (2, .i p2), (7, .box [.s p3.Key, .i p3.Version, .i p3.Len, .i p3.First]), ((OB + 0), .box (fl (dT (cSl 1 cU8)) p0)), (HK, .hp (hpA w0))]) (fun (_ : Unit) => m_R20_Put_v0_j1 p0 p1 p3 p2 = some r) ?_ ?_
 ·
  refine c_sr ?_
  refine o_1 (.t (.agg [.s p3.Key, .i p3.Version, .i p3.Len, .i p3.First])) rfl ?_
  obtain ⟨x17, h18, h⟩ := bind_some h
  refine o_ca (fc_R20_May _ _ h18) (g0 rfl) rfl rfl rfl rfl rfl rfl rfl (.cons .r .nil) rfl rfl ?_
  refine o_m2 (.b (!x17)) (.b (!x17)) rfl ?_
  rcases bif_some h with ⟨h19, h⟩ | ⟨h19, h⟩
  ·
   refine o_skip rfl rfl rfl h19 rfl rfl ?_
   refine o_skip rfl rfl rfl h19 rfl rfl ?_
   refine o_pk (.b true) (b := true) h19 (g0 rfl) rfl rfl rfl rfl rfl ?_
   refine o_1 (.b true) rfl ?_
   refine o_skip rfl rfl rfl rfl rfl rfl ?_
   refine o_skip rfl rfl rfl rfl rfl rfl ?_
   refine o_skip rfl rfl rfl rfl rfl rfl ?_
   refine o_skip rfl rfl rfl rfl rfl rfl ?_
   refine o_un rfl rfl rfl rfl rfl ?_
   refine o_un rfl rfl rfl rfl rfl ?_
   refine o_un rfl rfl rfl rfl rfl ?_
   refine o_un rfl rfl rfl rfl rfl ?_
   refine o_skip rfl rfl rfl rfl rfl rfl ?_
   refine o_pk (.b true) (b := true) rfl (g0 rfl) rfl rfl rfl rfl rfl ?_
   refine o_nil ?_
   refine c_t rfl rfl ?_
   refine c_sr ?_
   refine o_1 (.i 2) rfl ?_
   refine o_nil (c_ret ?_)
   obtain rfl := Option.some.inj h
   exact ⟨⟨_, rfl, .r⟩, ⟨rfl, trivial⟩, rfl⟩
  refine o_s (.i p2) (gy rfl rfl rfl h19) rfl rfl rfl ?_
  refine o_s (.b (decide (p2 < 1))) (gy rfl rfl rfl h19) rfl rfl rfl ?_
  refine o_pk (.b (decide (p2 < 1))) (b := false) h19 (g0 rfl) rfl rfl rfl rfl rfl ?_
  refine o_1 (.b (decide (p2 < 1))) rfl ?_
  rcases bif_some h with ⟨h20, h⟩ | ⟨h20, h⟩
  ·
   refine o_skip rfl rfl rfl h20 rfl rfl ?_
   refine o_skip rfl rfl rfl h20 rfl rfl ?_
   refine o_skip rfl rfl rfl h20 rfl rfl ?_
   refine o_skip rfl rfl rfl h20 rfl rfl ?_
   refine o_un rfl rfl rfl rfl rfl ?_
   refine o_un rfl rfl rfl rfl rfl ?_
   refine o_un rfl rfl rfl rfl rfl ?_
   refine o_un rfl rfl rfl rfl rfl ?_
   refine o_skip rfl rfl rfl h20 rfl rfl ?_
   refine o_pk (.b true) (b := true) h20 (g0 rfl) rfl rfl rfl rfl rfl ?_
   refine o_nil ?_
   refine c_t rfl rfl ?_
   refine c_sr ?_
   refine o_1 (.i 2) rfl ?_
   refine o_nil (c_ret ?_)
   obtain rfl := Option.some.inj h
   exact ⟨⟨_, rfl, .r⟩, ⟨rfl, trivial⟩, rfl⟩
  refine o_s (.i p2) (gy rfl rfl rfl h20) rfl rfl rfl ?_
  refine o_s (.i p1) (gy rfl rfl rfl h20) rfl rfl rfl ?_
  refine o_s (.b (decide (p2 ≥ p1))) (gy rfl rfl rfl h20) rfl rfl rfl ?_
  refine o_s (.b (decide (p2 ≥ p1))) (gy rfl rfl rfl h20) rfl rfl rfl ?_
  rcases bif_some h with ⟨h21, h⟩ | ⟨h21, h⟩
  ·
   refine o_s (.i p2) (gy rfl rfl rfl h21) rfl rfl rfl ?_
   refine o_s (.i p1) (gy rfl rfl rfl h21) rfl rfl rfl ?_
   refine o_s (.i (wi (p1 + 4))) (gy rfl rfl rfl h21) rfl rfl rfl ?_
   refine o_s (.b (decide (p2 < (wi (p1 + 4))))) (gy rfl rfl rfl h21) rfl rfl rfl ?_
   refine o_pk (.b (decide (p2 < (wi (p1 + 4))))) (b := true) h21 (gy rfl rfl rfl h20) rfl rfl rfl rfl rfl ?_
   refine o_pk (.b (decide (p2 < (wi (p1 + 4))))) (b := false) h20 (g0 rfl) rfl rfl rfl rfl rfl ?_
   refine o_nil ?_
   rcases bif_some h with ⟨h22, h⟩ | ⟨h22, h⟩
   ·
    refine c_t h22 rfl ?_
    refine c_sr ?_
    refine o_1 (.i 2) rfl ?_
    refine o_nil (c_ret ?_)
    obtain rfl := Option.some.inj h
    exact ⟨⟨_, rfl, .r⟩, ⟨rfl, trivial⟩, rfl⟩
   refine c_f h22 rfl ?_
   refine c_skip ?_
   exact ⟨(), [], h, rfl, ⟨.inr ⟨_, rfl, pure_hpA _⟩, by (repeat (first | exact ObP.nil | refine ObP.cons (.inl rfl) ?_ | refine ObP.cons (.inr (fun _ => rfl)) ?_ | refine ObP.cons (.inr (ob_box (fl_noPt _ _))) ?_ | refine ObP.cons (.inr (ob_gb _ _)) ?_))⟩, ⟨.r, .r, .r, .r, .r, .r, trivial⟩, rfl⟩
  refine o_skip rfl rfl rfl h21 rfl rfl ?_
  refine o_skip rfl rfl rfl h21 rfl rfl ?_
  refine o_skip rfl rfl rfl h21 rfl rfl ?_
  refine o_skip rfl rfl rfl h21 rfl rfl ?_
  refine o_pk (.b false) (b := false) h21 (gy rfl rfl rfl h20) rfl rfl rfl rfl rfl ?_
  refine o_pk (.b false) (b := false) h20 (g0 rfl) rfl rfl rfl rfl rfl ?_
  refine o_nil ?_
  refine c_f rfl rfl ?_
  refine c_skip ?_
  exact ⟨(), [], h, rfl, ⟨.inr ⟨_, rfl, pure_hpA _⟩, by (repeat (first | exact ObP.nil | refine ObP.cons (.inl rfl) ?_ | refine ObP.cons (.inr (fun _ => rfl)) ?_ | refine ObP.cons (.inr (ob_box (fl_noPt _ _))) ?_ | refine ObP.cons (.inr (ob_gb _ _)) ?_))⟩, ⟨.r, .r, .r, .r, .r, .r, trivial⟩, rfl⟩
 rintro ⟨⟩ h
 refine c_sr ?_
 refine o_m4 (.t (.view 0 0 41 1 p0.length)) (.i p1) (.ref 7 0) (.s p3.Key) rfl ?_
 obtain ⟨x1, h2, h⟩ := bind_some h
 refine o_of (e := [((OB + 0), .box (fl (dT (cSl 1 cU8)) p0)), (36, .tup [.i x1.1, .i x1.2])]) (g0 rfl) (h_callR mR rfl (σ := [0]) (fr := []) rfl rfl rfl rfl rfl rfl rfl (fch_R20_Find_v0 _ _ _ w0 _ h2) (pure_hpA _) rfl (by simp [A.flatO, fl_noPt]) (by simp [A.flatO, fl_noPt]) rfl (.cons (argVw rfl rfl rfl) (.cons (.plain .r rfl) (.cons (.plain .r rfl) .nil))) rfl (.tup (.cons (.flat rfl) (.cons (.flat rfl) .nil)))) rfl ?_
 refine o_m5 (.tup [.i x1.1, .i x1.2]) (.i x1.1) (.i x1.2) (.i x1.1) (.i x1.2) rfl ?_
 refine o_nil (c_seq (c_sr ?_))
 refine o_m2 (.i x1.2) (.b (x1.2 == 0)) rfl ?_
 refine o_nil ?_
 rcases bif_some h with ⟨h3, h⟩ | ⟨h3, h⟩
 ·
  refine c_t h3 rfl ?_
  refine c_sr ?_
  refine o_1 (.i 42) rfl ?_
  refine o_nil (c_ret ?_)
  obtain rfl := Option.some.inj h
  exact ⟨⟨_, rfl, .r⟩, ⟨rfl, trivial⟩, rfl⟩
 refine c_f h3 rfl ?_
 refine c_skip (c_seq (c_sr ?_))
 refine o_m2 (.i x1.2) (.b (x1.2 != 35)) rfl ?_
 refine o_nil ?_
 rcases bif_some h with ⟨h4, h⟩ | ⟨h4, h⟩
 ·
  refine c_t h4 rfl ?_
  refine c_sr ?_
  refine o_m2 (.i x1.2) (.i x1.2) rfl ?_
  refine o_nil (c_ret ?_)
  obtain rfl := Option.some.inj h
  exact ⟨⟨_, rfl, .r⟩, ⟨rfl, trivial⟩, rfl⟩
 refine c_f h4 rfl ?_
 refine c_skip (c_sr ?_)
 refine o_m2 (.ref 7 0) (.s p3.Key) rfl ?_
 obtain ⟨x5, h6, h⟩ := bind_some h
 refine o_ca (fc_R20_Bucket _ _ h6) (g0 rfl) rfl rfl rfl rfl rfl rfl rfl (.cons .r .nil) rfl rfl ?_
 refine o_1 (.i x5) rfl ?_
 refine o_nil (c_sr ?_)
 refine o_m3 (.t (.view 0 0 41 1 p0.length)) (.i p1) (.i x5) rfl ?_
 obtain ⟨x7, h8, h⟩ := bind_some h
 refine o_of (e := [((OB + 0), .box (fl (dT (cSl 1 cU8)) p0)), (50, .i x7)]) (g0 rfl) (h_callR mR rfl (σ := [0]) (fr := []) rfl rfl rfl rfl rfl rfl rfl (fch_R20_Head_v0 _ _ _ w0 _ h8) (pure_hpA _) rfl (by simp [A.flatO, fl_noPt]) (by simp [A.flatO, fl_noPt]) rfl (.cons (argVw rfl rfl rfl) (.cons (.plain .r rfl) (.cons (.plain .r rfl) .nil))) rfl (.t (.flat rfl))) rfl ?_
 refine o_1 (.i x7) rfl ?_
 refine o_nil (c_sr ?_)
 refine o_m4 (.t (.view 0 0 41 1 p0.length)) (.i p2) (.t (.agg [.s p3.Key, .i p3.Version, .i p3.Len, .i p3.First])) (.i x7) rfl ?_
 obtain ⟨x9, h10, h⟩ := bind_some h
 refine o_ca (fc_R20_Bytes _ _ _ h10) (g0 rfl) rfl rfl rfl rfl rfl rfl rfl (.cons .r (.cons .r .nil)) rfl rfl ?_
 obtain ⟨x11, h12, h⟩ := bind_some h
 refine o_of (e := [(56, .ref (OB + 0) (0 + Int.toNat p2 * 1))]) (g0 rfl) (h_lix mR rfl rfl rfl rfl rfl (idxV rfl h12) rfl rfl rfl) rfl ?_
 refine o_of (e := [((OB + 0), .box (fl (dT (cSl 1 cU8)) (p0.set (Int.toNat p2) x9)))]) (g0 rfl) (h_lst mR rfl rfl rfl rfl rfl rfl rfl (fl_room h12 (fun _ => rfl)) (fl_put h12 x9 (fun _ => rfl) rfl)) rfl ?_
 refine o_nil (c_sr ?_)
 refine o_m5 (.t (.view 0 0 41 1 p0.length)) (.i p1) (.i x5) (.i x7) (.i p2) rfl ?_
 obtain ⟨x13, h14, h⟩ := bind_some h
 refine o_of (e := [((OB + 0), .box (fl (dT (cSl 1 cU8)) x13)), (62, .tup [])]) (g0 rfl) (h_callR mR rfl (σ := [0]) (fr := []) rfl rfl rfl rfl rfl rfl rfl (fch_R20_name_v0 _ _ _ _ _ w0 _ h14) (pure_hpA _) rfl (by simp [A.flatO, fl_noPt]) (by simp [A.flatO, fl_noPt]) rfl (.cons (argVw rfl rfl (by first | rfl | omega | (simp; done) | (dsimp only; omega) | (simp; omega))) (.cons (.plain .r rfl) (.cons (.plain .r rfl) (.cons (.plain .r rfl) (.cons (.plain .r rfl) .nil))))) rfl (.tup .nil)) rfl ?_
 obtain ⟨x15, h16, h⟩ := bind_some h
 have h16 : x13.length = (p0.set (Int.toNat p2) x9).length := lenI_eq h16; simp only [List.length_set, List.length_replicate] at h16
 refine o_nil (c_sr ?_)
 refine o_1 (.i 0) rfl ?_
 refine o_nil (c_ret ?_)
 obtain rfl := Option.some.inj h
 exact ⟨⟨_, rfl, .r⟩, ⟨rfl, trivial⟩, rfl⟩
theorem fch_R20_Set_v0 (p0 : (List (List UInt8))) (p1 : Int) (p2 : S_api_Entry) (w0 : Hp) (r : (Int × (List (List UInt8)))) (h : m_R20_Set_v0 p0 p1 p2 = some r) : FCH Try.prog 48 [.t (.view 0 0 41 1 p0.length), .t (.d (.lit (.int .i64 p1))), .t (.agg [.lit (.string ⟨⟨p2.Key⟩⟩), .lit (.int .i64 p2.Version), .lit (.int .i64 p2.Len), .lit (.int .i64 p2.First)])] [.box (fl (dT (cSl 1 cU8)) p0)] [.box (fl (dT (cSl 1 cU8)) r.2)] (hpA w0) (hpA w0) (.t (.d (.lit (.int .i64 r.1)))) := by
 refine fch_mk (rs := [.tmp 6]) (n := 41) [] Try.func48 rfl rfl (Nat.le_of_ble_eq_true rfl) rfl (pins := [OB + 0]) rfl (L := [(HK, .hp (hpA w0)), (OB + 0, .box (fl (dT (cSl 1 cU8)) p0)), (0, .t (.view 0 0 41 1 p0.length)), (1, .i p1), (2, .t (.agg [.s p2.Key, .i p2.Version, .i p2.Len, .i p2.First]))]) rfl ?_
 refine c_sr ?_
 refine o_m2 (.box [.s p2.Key, .i p2.Version, .i p2.Len, .i p2.First]) (.i 0) rfl ?_
 refine o_nil (c_seq (c_sr ?_))
 refine o_1 (.t (.agg [.s p2.Key, .i p2.Version, .i p2.Len, .i p2.First])) rfl ?_
 obtain ⟨x1, h2, h⟩ := bind_some h
 refine o_ca (fc_R20_May _ _ h2) (g0 rfl) rfl rfl rfl rfl rfl rfl rfl (.cons .r .nil) rfl rfl ?_
 refine o_1 (.b (!x1)) rfl ?_
 refine o_nil ?_
 rcases bif_some h with ⟨h3, h⟩ | ⟨h3, h⟩
 ·
  refine c_t h3 rfl ?_
  refine c_sr ?_
  refine o_1 (.i 2) rfl ?_
  refine o_nil (c_ret ?_)
  obtain rfl := Option.some.inj h
  exact ⟨⟨_, rfl, .r⟩, ⟨rfl, trivial⟩, rfl⟩
 refine c_f h3 rfl ?_
 refine c_skip (c_sr ?_)
 refine o_m4 (.t (.view 0 0 41 1 p0.length)) (.i p1) (.ref 5 0) (.s p2.Key) rfl ?_
 obtain ⟨x4, h5, h⟩ := bind_some h
 refine o_of (e := [((OB + 0), .box (fl (dT (cSl 1 cU8)) p0)), (20, .tup [.i x4.1, .i x4.2])]) (g0 rfl) (h_callR mR rfl (σ := [0]) (fr := []) rfl rfl rfl rfl rfl rfl rfl (fch_R20_Find_v0 _ _ _ w0 _ h5) (pure_hpA _) rfl (by simp [A.flatO, fl_noPt]) (by simp [A.flatO, fl_noPt]) rfl (.cons (argVw rfl rfl rfl) (.cons (.plain .r rfl) (.cons (.plain .r rfl) .nil))) rfl (.tup (.cons (.flat rfl) (.cons (.flat rfl) .nil)))) rfl ?_
 refine o_m5 (.tup [.i x4.1, .i x4.2]) (.i x4.1) (.i x4.2) (.i x4.1) (.i x4.2) rfl ?_
 refine o_nil (c_seq (c_sr ?_))
 refine o_m2 (.i x4.2) (.b (x4.2 != 0)) rfl ?_
 refine o_nil ?_
 rcases bif_some h with ⟨h6, h⟩ | ⟨h6, h⟩
 ·
  refine c_t h6 rfl ?_
  refine c_sr ?_
  refine o_m2 (.i x4.2) (.i x4.2) rfl ?_
  refine o_nil (c_ret ?_)
  obtain rfl := Option.some.inj h
  exact ⟨⟨_, rfl, .r⟩, ⟨rfl, trivial⟩, rfl⟩
 refine c_f h6 rfl ?_
 refine c_skip (c_sr ?_)
 refine o_m2 (.t (.view 0 0 41 1 p0.length)) (.i x4.1) rfl ?_
 obtain ⟨x7, h8, h⟩ := bind_some h
 refine o_of (e := [(29, .ref (OB + 0) (0 + Int.toNat x4.1 * 1))]) (g0 rfl) (h_lix mR rfl rfl rfl rfl rfl (idxV rfl h8) rfl rfl rfl) rfl ?_
 refine o_of (e := [(30, .y x7)]) (g0 rfl) (h_lld mR rfl rfl rfl rfl (fl_at h8 rfl (fun _ => rfl)) rfl rfl rfl) rfl ?_
 obtain ⟨x9, h10, h⟩ := bind_some h
 refine o_ca (fc_R20_Read _ _ h10) (g0 rfl) rfl rfl rfl rfl rfl rfl rfl (.cons .r .nil) rfl rfl ?_
 refine o_m5 (.tup [.agg [.s x9.1.Key, .i x9.1.Version, .i x9.1.Len, .i x9.1.First], .i x9.2.1, .b x9.2.2]) (.t (.agg [.s x9.1.Key, .i x9.1.Version, .i x9.1.Len, .i x9.1.First])) (.i x9.2.1) (.b x9.2.2) (.box [.s [], .i 0, .i 0, .i 0]) rfl ?_
 refine o_st (.box [.s x9.1.Key, .i x9.1.Version, .i x9.1.Len, .i x9.1.First]) (g0 rfl) rfl rfl rfl ?_
 refine o_m2 (.i x9.2.1) (.b x9.2.2) rfl ?_
 refine o_nil (c_sr ?_)
 refine o_m4 (.t (.view 0 0 41 1 p0.length)) (.i x4.1) (.t (.agg [.s p2.Key, .i p2.Version, .i p2.Len, .i p2.First])) (.i x9.2.1) rfl ?_
 obtain ⟨x11, h12, h⟩ := bind_some h
 refine o_ca (fc_R20_Bytes _ _ _ h12) (g0 rfl) rfl rfl rfl rfl rfl rfl rfl (.cons .r (.cons .r .nil)) rfl rfl ?_
 obtain ⟨x13, h14, h⟩ := bind_some h
 refine o_of (e := [(40, .ref (OB + 0) (0 + Int.toNat x4.1 * 1))]) (g0 rfl) (h_lix mR rfl rfl rfl rfl rfl (idxV rfl h14) rfl rfl rfl) rfl ?_
 refine o_of (e := [((OB + 0), .box (fl (dT (cSl 1 cU8)) (p0.set (Int.toNat x4.1) x11)))]) (g0 rfl) (h_lst mR rfl rfl rfl rfl rfl rfl rfl (fl_room h14 (fun _ => rfl)) (fl_put h14 x11 (fun _ => rfl) rfl)) rfl ?_
 refine o_nil (c_sr ?_)
 refine o_1 (.i 0) rfl ?_
 refine o_nil (c_ret ?_)
 obtain rfl := Option.some.inj h
 exact ⟨⟨_, rfl, .r⟩, ⟨rfl, trivial⟩, rfl⟩
theorem fch_R20_Drop_v0 (p0 : (List (List UInt8))) (p1 : Int) (p2 : (List UInt8)) (w0 : Hp) (r : (Int × Int × (List (List UInt8)))) (h : m_R20_Drop_v0 p0 p1 p2 = some r) : FCH Try.prog 50 [.t (.view 0 0 41 1 p0.length), .t (.d (.lit (.int .i64 p1))), .t (.d (.lit (.string ⟨⟨p2⟩⟩)))] [.box (fl (dT (cSl 1 cU8)) p0)] [.box (fl (dT (cSl 1 cU8)) r.2.2)] (hpA w0) (hpA w0) (.tup [.d (.lit (.int .i64 r.1)), .d (.lit (.int .i64 r.2.1))]) := by
 refine fch_mk (rs := [.tmp 6, .tmp 7]) (n := 40) [] Try.func50 rfl rfl (Nat.le_of_ble_eq_true rfl) rfl (pins := [OB + 0]) rfl (L := [(HK, .hp (hpA w0)), (OB + 0, .box (fl (dT (cSl 1 cU8)) p0)), (0, .t (.view 0 0 41 1 p0.length)), (1, .i p1), (2, .s p2)]) rfl ?_
 refine c_sr ?_
 refine o_m2 (.i 0) (.i 0) rfl ?_
 refine o_nil (c_sr ?_)
 refine o_m3 (.t (.view 0 0 41 1 p0.length)) (.i p1) (.s p2) rfl ?_
 obtain ⟨x1, h2, h⟩ := bind_some h
 refine o_of (e := [((OB + 0), .box (fl (dT (cSl 1 cU8)) p0)), (17, .tup [.i x1.1, .i x1.2])]) (g0 rfl) (h_callR mR rfl (σ := [0]) (fr := []) rfl rfl rfl rfl rfl rfl rfl (fch_R20_Find_v0 _ _ _ w0 _ h2) (pure_hpA _) rfl (by simp [A.flatO, fl_noPt]) (by simp [A.flatO, fl_noPt]) rfl (.cons (argVw rfl rfl rfl) (.cons (.plain .r rfl) (.cons (.plain .r rfl) .nil))) rfl (.tup (.cons (.flat rfl) (.cons (.flat rfl) .nil)))) rfl ?_
 refine o_m5 (.tup [.i x1.1, .i x1.2]) (.i x1.1) (.i x1.2) (.i x1.1) (.i x1.2) rfl ?_
 refine o_nil (c_seq (c_sr ?_))
 refine o_m2 (.i x1.2) (.b (x1.2 != 0)) rfl ?_
 refine o_nil ?_
 rcases bif_some h with ⟨h3, h⟩ | ⟨h3, h⟩
 ·
  refine c_t h3 rfl ?_
  refine c_sr ?_
  refine o_m3 (.i x1.2) (.i 0) (.i x1.2) rfl ?_
  refine o_nil (c_ret ?_)
  obtain rfl := Option.some.inj h
  exact ⟨⟨_, rfl, (.tup (.cons .r (.cons .r .nil)))⟩, ⟨rfl, trivial⟩, rfl⟩
 refine c_f h3 rfl ?_
 refine c_skip (c_sr ?_)
 refine o_m2 (.t (.view 0 0 41 1 p0.length)) (.i x1.1) rfl ?_
 obtain ⟨x4, h5, h⟩ := bind_some h
 refine o_of (e := [(26, .ref (OB + 0) (0 + Int.toNat x1.1 * 1))]) (g0 rfl) (h_lix mR rfl rfl rfl rfl rfl (idxV rfl h5) rfl rfl rfl) rfl ?_
 refine o_of (e := [(27, .y x4)]) (g0 rfl) (h_lld mR rfl rfl rfl rfl (fl_at h5 rfl (fun _ => rfl)) rfl rfl rfl) rfl ?_
 obtain ⟨x6, h7, h⟩ := bind_some h
 refine o_ca (fc_R20_Read _ _ h7) (g0 rfl) rfl rfl rfl rfl rfl rfl rfl (.cons .r .nil) rfl rfl ?_
 refine o_m5 (.tup [.agg [.s x6.1.Key, .i x6.1.Version, .i x6.1.Len, .i x6.1.First], .i x6.2.1, .b x6.2.2]) (.t (.agg [.s x6.1.Key, .i x6.1.Version, .i x6.1.Len, .i x6.1.First])) (.i x6.2.1) (.b x6.2.2) (.box [.s [], .i 0, .i 0, .i 0]) rfl ?_
 refine o_st (.box [.s x6.1.Key, .i x6.1.Version, .i x6.1.Len, .i x6.1.First]) (g0 rfl) rfl rfl rfl ?_
 refine o_m2 (.i x6.2.1) (.b x6.2.2) rfl ?_
 refine o_nil (c_sr ?_)
 refine o_m3 (.t (.view 0 0 41 1 p0.length)) (.i p1) (.s p2) rfl ?_
 obtain ⟨x8, h9, h⟩ := bind_some h
 refine o_ca (fc_R20_Bucket _ _ h9) (g0 rfl) rfl rfl rfl rfl rfl rfl rfl (.cons .r .nil) rfl rfl ?_
 refine o_m2 (.i x1.1) (.i x6.2.1) rfl ?_
 obtain ⟨x10, h11, h⟩ := bind_some h
 refine o_of (e := [((OB + 0), .box (fl (dT (cSl 1 cU8)) x10)), (38, .tup [])]) (g0 rfl) (h_callR mR rfl (σ := [0]) (fr := []) rfl rfl rfl rfl rfl rfl rfl (fch_R20_name_v0 _ _ _ _ _ w0 _ h11) (pure_hpA _) rfl (by simp [A.flatO, fl_noPt]) (by simp [A.flatO, fl_noPt]) rfl (.cons (argVw rfl rfl rfl) (.cons (.plain .r rfl) (.cons (.plain .r rfl) (.cons (.plain .r rfl) (.cons (.plain .r rfl) .nil))))) rfl (.tup .nil)) rfl ?_
 obtain ⟨x12, h13, h⟩ := bind_some h
 have h13 : x10.length = p0.length := lenI_eq h13
 refine o_nil (c_sr ?_)
 refine o_m3 (.i x1.1) (.i x1.1) (.i 0) rfl ?_
 refine o_nil (c_ret ?_)
 obtain rfl := Option.some.inj h
 exact ⟨⟨_, rfl, (.tup (.cons .r (.cons .r .nil)))⟩, ⟨rfl, trivial⟩, rfl⟩
theorem fch_L20_IndexDoes (p0 : (List S_L20_Do)) (w0 : Hp) (r : (Bool × Hp)) (h : m_L20_IndexDoes p0 w0 = some r) : FCH Try.prog 8 [.t (.d (.seq 6 (List.map cS_L20_Do p0)))] [] [] (hpA w0) (hpA r.2) (.t (.d (.lit (.bool r.1)))) := by
 refine fch_mk (rs := [.tmp 2]) (n := 155) [0] Try.func8 rfl rfl (Nat.le_of_ble_eq_true rfl) rfl (pins := []) rfl (L := [(HK, .hp (hpA w0)), (OB + 0, .free), (0, .t (.d (.seq 6 (List.map cS_L20_Do p0))))]) rfl ?_
 refine c_sr ?_
 refine o_1 (.b false) rfl ?_
 refine o_nil (c_seq (c_sr ?_))
 obtain ⟨x1, h2, h⟩ := bind_some h
 refine o_of (e := [(HK, .hp (hpA x1.2)), (20, .b x1.1)]) (g0 rfl) (h_call mR rfl (σ := []) (fr := []) rfl rfl rfl rfl rfl rfl rfl (fch_L20_awake w0 _ h2) (pure_hpA _) (pure_hpA _) rfl rfl rfl rfl .nil rfl (.t (.flat rfl))) rfl ?_
 refine o_1 (.b (!x1.1)) rfl ?_
 refine o_nil ?_
 rcases bif_some h with ⟨h3, h⟩ | ⟨h3, h⟩
 ·
  refine c_t h3 rfl ?_
  refine c_sr ?_
  refine o_1 (.b false) rfl ?_
  refine o_nil (c_ret ?_)
  obtain rfl := Option.some.inj h
  exact ⟨⟨_, rfl, .r⟩, trivial, rfl⟩
 refine c_f h3 rfl ?_
 refine c_skip (c_seq (c_sr ?_))
 refine o_1 (.t (.d (.seq 6 (List.map cS_L20_Do p0)))) rfl ?_
 obtain ⟨x4, h5, h⟩ := bind_some h
 refine o_ca (fc_L20_few _ _ h5) (g0 rfl) rfl rfl rfl rfl rfl rfl rfl (.cons .r .nil) rfl rfl ?_
 refine o_1 (.b (!x4)) rfl ?_
 refine o_nil ?_
 rcases bif_some h with ⟨h6, h⟩ | ⟨h6, h⟩
 ·
  refine c_t h6 rfl ?_
  refine c_sr ?_
  refine o_1 (.b true) rfl ?_
  refine o_nil (c_ret ?_)
  obtain rfl := Option.some.inj h
  exact ⟨⟨_, rfl, .r⟩, trivial, rfl⟩
 refine c_f h6 rfl ?_
 refine c_skip (c_sr ?_)
 obtain ⟨x7, h8, h⟩ := bind_some h
 refine o_of (e := [((OB + 0), gbA (cSl 1 cU8) x7), (25, .t (.view 0 0 41 1 x7.length))]) (g0 rfl) (h_callR mR rfl (σ := []) (fr := [0]) rfl rfl rfl rfl rfl rfl rfl (fch_L20_sectors_r _ x1.2 _ h8) (pure_hpA _) rfl rfl (by simp [gb_flatO]) rfl (.cons (.plain (.t (.d (.nil _))) rfl) .nil) rfl (.t (.view rfl))) rfl ?_
 refine o_1 (.t (.view 0 0 41 1 x7.length)) rfl ?_
 refine o_nil (c_sr ?_)
 refine o_1 (.t (.view 0 0 41 1 x7.length)) rfl ?_
 rcases bif_some h with ⟨h9, h⟩ | ⟨h9, h⟩
 ·
  exact none_ne h
 obtain ⟨x10, h11, h⟩ := bind_some h
 refine o_of (e := [((OB + 0), .box (fl (dT (cSl 1 cU8)) x7)), (HK, .hp (hpA x10.2)), (27, .t ((ptT 5 x10.1)))]) (g0 rfl) (h_call mR rfl (σ := [0]) (fr := []) rfl rfl rfl rfl rfl rfl rfl (fch_L20_Begun_v0 _ x1.2 _ h11) (pure_hpA _) (pure_hpA _) rfl (by simp [A.flatO, fl_noPt]) (by simp [A.flatO, fl_noPt]) (cons_eq (gb_ne (isE_ne h9)) rfl) (.cons (argVw rfl rfl rfl) .nil) rfl (.t (ptT_pt _ _))) rfl ?_
 refine o_of (e := [(4, .t ((ptT 5 x10.1)))]) (g0 rfl) (h_mv mR (.inr rfl) (cpO_pt rfl) rfl rfl) rfl ?_
 refine o_nil (c_sr ?_)
 refine o_of (e := [(28, .t ((ptT 5 x10.1)))]) (g0 rfl) (h_mv mR (.inl rfl) (cpO_pt rfl) rfl rfl) rfl ?_
 obtain ⟨x12, h13, h⟩ := bind_some h
 refine o_of (e := [(HK, .hp (hpA x12.2)), (29, .t ((ptT 7 x12.1)))]) (g0 rfl) (h_call mR rfl (σ := []) (fr := []) rfl rfl rfl rfl rfl rfl rfl (fch_index_At _ _ x10.2 _ h13) (pure_hpA _) (pure_hpA _) rfl rfl rfl rfl (.cons (argPt rfl) (.cons (.plain .r rfl) .nil)) rfl (.t (ptT_pt _ _))) rfl ?_
 refine o_of (e := [(5, .t ((ptT 7 x12.1)))]) (g0 rfl) (h_mv mR (.inr rfl) (cpO_pt rfl) rfl rfl) rfl ?_
 refine o_nil ?_
 refine c_cutH (fun (q : (List (List UInt8)) × Hp) => [(3, .t (.view 0 0 41 1 q.1.length)), (4, .t ((ptT 5 x10.1))), ((OB + 0), .box (fl (dT (cSl 1 cU8)) q.1)), (HK, .hp (hpA q.2))]) (fun (q : (List (List UInt8)) × Hp) => m_L20_IndexDoes_j1 x10 q.1 q.2 = some r) ?_ ?_
 ·
  refine c_sr ?_
  refine o_1 (.t (.d (.seq 6 (List.map cS_L20_Do p0)))) rfl ?_
  refine o_c (g0 rfl) rfl rfl rfl (lenE _ _) trivial ?_
  refine o_1 (.i 0) rfl ?_
  refine o_nil (c_block ?_)
  refine c_fuelH (fun (q : Int × (List (List UInt8)) × Hp) => [(3, .t (.view 0 0 41 1 q.2.1.length)), (4, .t ((ptT 5 x10.1))), (5, .t ((ptT 7 x12.1))), (30, .t (.d (.seq 6 (List.map cS_L20_Do p0)))), (31, .i (p0.length : Int)), (32, .i q.1), ((OB + 0), .box (fl (dT (cSl 1 cU8)) q.2.1)), (HK, .hp (hpA q.2.2))]) (fun nl3 => (fun (q : Int × (List (List UInt8)) × Hp) => m_L20_IndexDoes_l3 p0 x12 x10 nl3 q.1 q.2.1 q.2.2 = some r)) (p0.length + 1) (0, x7, x12.2) [] h rfl ⟨.inr ⟨_, rfl, pure_hpA _⟩, by (repeat (first | exact ObP.nil | refine ObP.cons (.inl rfl) ?_ | refine ObP.cons (.inr (fun _ => rfl)) ?_ | refine ObP.cons (.inr (ob_box (fl_noPt _ _))) ?_ | refine ObP.cons (.inr (ob_gb _ _)) ?_))⟩ ⟨.r, .r, .r, .r, .r, .r, .r, .r, trivial⟩ (by ((refine nr_of ?_; repeat (first | exact nr_nil | refine nr_cons rfl ?_ | refine nr_cons (nr_gb _ _ _) ?_)))) ?_
  rintro nl3 ⟨z26, z27, z28⟩ h
  cases nl3 with
  | zero => exact none_ne h
  | succ nl3 =>
   refine c_sr ?_
   refine o_1 (.b (decide (z26 < (p0.length : Int)))) rfl ?_
   refine o_nil (c_seq ?_)
   rcases bif_some h with ⟨h29, h⟩ | ⟨h29, h⟩
   ·
    refine c_t h29 rfl ?_
    refine c_skip (c_seq (c_block (c_sr ?_)))
    obtain ⟨x30, h31, h⟩ := bind_some h
    refine o_c (g0 rfl) rfl rfl rfl (idxE h31) (idxC h31) ?_
    refine o_m2 (.t (.agg [.i x30.Kind, .i x30.Home, .s x30.E.Key, .i x30.E.Version, .i x30.E.Len, .i x30.E.First])) (.box [.i 0, .i 0, .s [], .i 0, .i 0, .i 0]) rfl ?_
    refine o_st (.box [.i x30.Kind, .i x30.Home, .s x30.E.Key, .i x30.E.Version, .i x30.E.Len, .i x30.E.First]) (g0 rfl) rfl rfl rfl ?_
    refine o_nil (c_sr ?_)
    refine o_m2 (.ref 7 0) (.i x30.Kind) rfl ?_
    refine o_nil (c_block (c_sr ?_))
    refine o_m2 (.b (x30.Kind == 1)) (.b (x30.Kind == 1)) rfl ?_
    refine o_nil ?_
    rcases bif_some h with ⟨h32, h⟩ | ⟨h32, h⟩
    ·
     refine c_t h32 rfl ?_
     refine c_seq (c_sr ?_)
     refine o_m4 (.ref 7 1) (.i x30.Home) (.b (decide (x30.Home < 0))) (.b (decide (x30.Home < 0))) rfl ?_
     rcases bif_some h with ⟨h33, h⟩ | ⟨h33, h⟩
     ·
      refine o_skip rfl rfl rfl h33 rfl rfl ?_
      refine o_skip rfl rfl rfl h33 rfl rfl ?_
      refine o_skip rfl rfl rfl h33 rfl rfl ?_
      refine o_skip rfl rfl rfl h33 rfl rfl ?_
      refine o_skip rfl rfl rfl h33 rfl rfl ?_
      refine o_pk (.b true) (b := true) h33 (g0 rfl) rfl rfl rfl rfl rfl ?_
      refine o_1 (.b true) rfl ?_
      refine o_skip rfl rfl rfl rfl rfl rfl ?_
      refine o_skip rfl rfl rfl rfl rfl rfl ?_
      refine o_skip rfl rfl rfl rfl rfl rfl ?_
      refine o_skip rfl rfl rfl rfl rfl rfl ?_
      refine o_pk (.b true) (b := true) rfl (g0 rfl) rfl rfl rfl rfl rfl ?_
      refine o_nil ?_
      refine c_t rfl rfl ?_
      refine c_exit (c_region ?_)
      refine o_m2 (.i (wi (z26 + 1))) (.i (wi (z26 + 1))) rfl ?_
      refine o_nil ?_
      exact ⟨nl3, ((wi (z26 + 1)), z27, z28), [], Nat.lt_succ_self nl3, h, rfl, ⟨.inr ⟨_, rfl, pure_hpA _⟩, by (repeat (first | exact ObP.nil | refine ObP.cons (.inl rfl) ?_ | refine ObP.cons (.inr (fun _ => rfl)) ?_ | refine ObP.cons (.inr (ob_box (fl_noPt _ _))) ?_ | refine ObP.cons (.inr (ob_gb _ _)) ?_))⟩, ⟨.r, .r, .r, .r, .r, .r, .r, .r, trivial⟩, (by ((refine nr_of ?_; repeat (first | exact nr_nil | refine nr_cons rfl ?_ | refine nr_cons (nr_gb _ _ _) ?_))))⟩
     refine o_s (.ref 7 1) (gy rfl rfl rfl h33) rfl rfl rfl ?_
     refine o_s (.i x30.Home) (gy rfl rfl rfl h33) rfl rfl rfl ?_
     refine o_s (.t (.view 0 0 41 1 z27.length)) (gy rfl rfl rfl h33) rfl rfl rfl ?_
     refine o_of (e := [(72, .i (z27.length : Int))]) (gy rfl rfl rfl h33) (h_lln mR rfl rfl rfl rfl rfl rfl) rfl ?_
     refine o_s (.b (decide (x30.Home ≥ (z27.length : Int)))) (gy rfl rfl rfl h33) rfl rfl rfl ?_
     refine o_pk (.b (decide (x30.Home ≥ (z27.length : Int)))) (b := false) h33 (g0 rfl) rfl rfl rfl rfl rfl ?_
     refine o_1 (.b (decide (x30.Home ≥ (z27.length : Int)))) rfl ?_
     rcases bif_some h with ⟨h34, h⟩ | ⟨h34, h⟩
     ·
      refine o_skip rfl rfl rfl h34 rfl rfl ?_
      refine o_skip rfl rfl rfl h34 rfl rfl ?_
      refine o_skip rfl rfl rfl h34 rfl rfl ?_
      refine o_skip rfl rfl rfl h34 rfl rfl ?_
      refine o_pk (.b true) (b := true) h34 (g0 rfl) rfl rfl rfl rfl rfl ?_
      refine o_nil ?_
      refine c_t rfl rfl ?_
      refine c_exit (c_region ?_)
      refine o_m2 (.i (wi (z26 + 1))) (.i (wi (z26 + 1))) rfl ?_
      refine o_nil ?_
      exact ⟨nl3, ((wi (z26 + 1)), z27, z28), [], Nat.lt_succ_self nl3, h, rfl, ⟨.inr ⟨_, rfl, pure_hpA _⟩, by (repeat (first | exact ObP.nil | refine ObP.cons (.inl rfl) ?_ | refine ObP.cons (.inr (fun _ => rfl)) ?_ | refine ObP.cons (.inr (ob_box (fl_noPt _ _))) ?_ | refine ObP.cons (.inr (ob_gb _ _)) ?_))⟩, ⟨.r, .r, .r, .r, .r, .r, .r, .r, trivial⟩, (by ((refine nr_of ?_; repeat (first | exact nr_nil | refine nr_cons rfl ?_ | refine nr_cons (nr_gb _ _ _) ?_))))⟩
     refine o_s (.t (.view 0 0 41 1 z27.length)) (gy rfl rfl rfl h34) rfl rfl rfl ?_
     refine o_s (.ref 7 1) (gy rfl rfl rfl h34) rfl rfl rfl ?_
     refine o_s (.i x30.Home) (gy rfl rfl rfl h34) rfl rfl rfl ?_
     obtain ⟨x35, h36, h⟩ := bind_some h
     refine o_of (e := [((OB + 0), .box (fl (dT (cSl 1 cU8)) z27)), (79, .b x35)]) (gy rfl rfl rfl h34) (h_callR mR rfl (σ := [0]) (fr := []) rfl rfl rfl rfl rfl rfl rfl (fch_L20_used_v0 _ _ z28 _ h36) (pure_hpA _) rfl (by simp [A.flatO, fl_noPt]) (by simp [A.flatO, fl_noPt]) rfl (.cons (argVw rfl rfl rfl) (.cons (.plain .r rfl) .nil)) rfl (.t (.flat rfl))) rfl ?_
     refine o_pk (.b x35) (b := false) h34 (g0 rfl) rfl rfl rfl rfl rfl ?_
     refine o_nil ?_
     rcases bif_some h with ⟨h37, h⟩ | ⟨h37, h⟩
     ·
      refine c_t h37 rfl ?_
      refine c_exit (c_region ?_)
      refine o_m2 (.i (wi (z26 + 1))) (.i (wi (z26 + 1))) rfl ?_
      refine o_nil ?_
      exact ⟨nl3, ((wi (z26 + 1)), z27, z28), [], Nat.lt_succ_self nl3, h, rfl, ⟨.inr ⟨_, rfl, pure_hpA _⟩, by (repeat (first | exact ObP.nil | refine ObP.cons (.inl rfl) ?_ | refine ObP.cons (.inr (fun _ => rfl)) ?_ | refine ObP.cons (.inr (ob_box (fl_noPt _ _))) ?_ | refine ObP.cons (.inr (ob_gb _ _)) ?_))⟩, ⟨.r, .r, .r, .r, .r, .r, .r, .r, trivial⟩, (by ((refine nr_of ?_; repeat (first | exact nr_nil | refine nr_cons rfl ?_ | refine nr_cons (nr_gb _ _ _) ?_))))⟩
     refine c_f h37 rfl ?_
     refine c_skip (c_seq ?_)
     refine c_draw mixed (by kernel_rfl) ?_
     rcases ptM_some h with ⟨h38, h⟩ | ⟨i39, h38, h⟩
     ·
      refine d_h0 [] (e := [(81, .t (.d (.lit (.pointer none))))]) (ks := [81]) rfl (dg0 rfl) rfl rfl (fun S' hM hok => h_mv hM (.inl rfl) ((cpO_pt rfl).trans (pt_eq_none h38)) rfl (hok _ rfl rfl)) rfl ?_
      refine d_s (.ref 7 1) rfl (dg0 rfl) rfl rfl rfl rfl ?_
      refine d_s (.i x30.Home) rfl (dg0 rfl) rfl rfl rfl rfl ?_
      refine d_s (.ref 7 2) rfl (dg0 rfl) rfl rfl rfl rfl ?_
      refine d_s (.t (.agg [.s x30.E.Key, .i x30.E.Version, .i x30.E.Len, .i x30.E.First])) rfl (dg0 rfl) rfl rfl rfl rfl ?_
      obtain ⟨x40, h41, h⟩ := bind_some h
      refine d_h (e := [(HK, .hp (hpA x40.2)), (86, .i x40.1)]) (ks := [HK, 86]) rfl (dg0 rfl) rfl rfl (fun S' hM hk hok => h_call hM hk (σ := []) (fr := []) rfl rfl rfl (hok _ rfl rfl) rfl rfl rfl (fch_index_Index_Put _ _ _ z28 _ h41) (pure_hpA _) (pure_hpA _) rfl rfl rfl rfl (.cons (.plain .r rfl) (.cons (.plain .r rfl) (.cons (.plain .r rfl) .nil))) rfl (.t (.flat rfl))) rfl ?_
      refine d_s (.t (.view 0 0 41 1 z27.length)) rfl (dg0 rfl) rfl rfl rfl rfl ?_
      refine d_s (.ref 7 1) rfl (dg0 rfl) rfl rfl rfl rfl ?_
      refine d_s (.i x30.Home) rfl (dg0 rfl) rfl rfl rfl rfl ?_
      refine d_s (.ref 7 2) rfl (dg0 rfl) rfl rfl rfl rfl ?_
      refine d_s (.t (.agg [.s x30.E.Key, .i x30.E.Version, .i x30.E.Len, .i x30.E.First])) rfl (dg0 rfl) rfl rfl rfl rfl ?_
      obtain ⟨x42, h43, h⟩ := bind_some h
      refine d_hm [OB + 0] (e := [((OB + 0), .box (fl (dT (cSl 1 cU8)) x42.2)), (92, .i x42.1)]) (ks := [(OB + 0), 92]) rfl (dg0 rfl) rfl rfl (fun S' hM hk hS hok => h_callR hM hk (σ := [0]) (fr := []) rfl rfl rfl (hok _ rfl rfl) rfl rfl rfl (fch_R20_Put_v0 _ _ _ _ x40.2 _ h43) (pure_hpA _) rfl (by simp [A.flatO, fl_noPt]) (by simp [A.flatO, fl_noPt]) (cons_eq (hS (OB + 0) rfl) (rfl)) (.cons (argVw rfl rfl rfl) (.cons (.plain .r rfl) (.cons (.plain .r rfl) (.cons (.plain .r rfl) .nil)))) rfl (.t (.flat rfl))) rfl ?_
      obtain ⟨x44, h45, h⟩ := bind_some h
      have h45 : x42.2.length = z27.length := lenI_eq h45
      refine d_s (.b (x40.1 != x42.1)) rfl (dg0 rfl) rfl rfl rfl rfl ?_
      refine d_nil (by kernel_rfl) ?_
      rcases bif_some h with ⟨h46, h⟩ | ⟨h46, h⟩
      ·
       refine c_t h46 rfl ?_
       refine c_sr ?_
       refine o_1 (.b false) rfl ?_
       refine o_nil (c_ret ?_)
       obtain rfl := Option.some.inj h
       exact ⟨⟨_, rfl, .r⟩, trivial, rfl⟩
      refine c_f h46 rfl ?_
      refine c_skip (c_region ?_)
      refine o_m2 (.i (wi (z26 + 1))) (.i (wi (z26 + 1))) rfl ?_
      refine o_nil ?_
      exact ⟨nl3, ((wi (z26 + 1)), x42.2, x40.2), [], Nat.lt_succ_self nl3, h, rfl, ⟨.inr ⟨_, rfl, pure_hpA _⟩, by (repeat (first | exact ObP.nil | refine ObP.cons (.inl rfl) ?_ | refine ObP.cons (.inr (fun _ => rfl)) ?_ | refine ObP.cons (.inr (ob_box (fl_noPt _ _))) ?_ | refine ObP.cons (.inr (ob_gb _ _)) ?_))⟩, ⟨(.vwn (by first | rfl | omega | (simp; done) | (dsimp only; omega) | (simp; omega))), .r, .r, .r, .r, .r, .r, .r, trivial⟩, (by ((refine nr_of ?_; repeat (first | exact nr_nil | refine nr_cons rfl ?_ | refine nr_cons (nr_gb _ _ _) ?_))))⟩
     refine d_h0 [] (e := [(81, .t (.hpt (cd 7 i39) 0))]) (ks := [81]) rfl (dg0 rfl) rfl rfl (fun S' hM hok => h_mv hM (.inl rfl) ((cpO_pt rfl).trans (pt_eq_some h38)) rfl (hok _ rfl rfl)) rfl ?_
     refine d_s (.ref 7 1) rfl (dg0 rfl) rfl rfl rfl rfl ?_
     refine d_s (.i x30.Home) rfl (dg0 rfl) rfl rfl rfl rfl ?_
     refine d_s (.ref 7 2) rfl (dg0 rfl) rfl rfl rfl rfl ?_
     refine d_s (.t (.agg [.s x30.E.Key, .i x30.E.Version, .i x30.E.Len, .i x30.E.First])) rfl (dg0 rfl) rfl rfl rfl rfl ?_
     obtain ⟨x47, h48, h⟩ := bind_some h
     refine d_h (e := [(HK, .hp (hpA x47.2)), (86, .i x47.1)]) (ks := [HK, 86]) rfl (dg0 rfl) rfl rfl (fun S' hM hk hok => h_call hM hk (σ := []) (fr := []) rfl rfl rfl (hok _ rfl rfl) rfl rfl rfl (fch_index_Index_Put _ _ _ z28 _ h48) (pure_hpA _) (pure_hpA _) rfl rfl rfl rfl (.cons (.hpt _ _) (.cons (.plain .r rfl) (.cons (.plain .r rfl) .nil))) rfl (.t (.flat rfl))) rfl ?_
     refine d_s (.t (.view 0 0 41 1 z27.length)) rfl (dg0 rfl) rfl rfl rfl rfl ?_
     refine d_s (.ref 7 1) rfl (dg0 rfl) rfl rfl rfl rfl ?_
     refine d_s (.i x30.Home) rfl (dg0 rfl) rfl rfl rfl rfl ?_
     refine d_s (.ref 7 2) rfl (dg0 rfl) rfl rfl rfl rfl ?_
     refine d_s (.t (.agg [.s x30.E.Key, .i x30.E.Version, .i x30.E.Len, .i x30.E.First])) rfl (dg0 rfl) rfl rfl rfl rfl ?_
     obtain ⟨x49, h50, h⟩ := bind_some h
     refine d_hm [OB + 0] (e := [((OB + 0), .box (fl (dT (cSl 1 cU8)) x49.2)), (92, .i x49.1)]) (ks := [(OB + 0), 92]) rfl (dg0 rfl) rfl rfl (fun S' hM hk hS hok => h_callR hM hk (σ := [0]) (fr := []) rfl rfl rfl (hok _ rfl rfl) rfl rfl rfl (fch_R20_Put_v0 _ _ _ _ x47.2 _ h50) (pure_hpA _) rfl (by simp [A.flatO, fl_noPt]) (by simp [A.flatO, fl_noPt]) (cons_eq (hS (OB + 0) rfl) (rfl)) (.cons (argVw rfl rfl rfl) (.cons (.plain .r rfl) (.cons (.plain .r rfl) (.cons (.plain .r rfl) .nil)))) rfl (.t (.flat rfl))) rfl ?_
     obtain ⟨x51, h52, h⟩ := bind_some h
     have h52 : x49.2.length = z27.length := lenI_eq h52
     refine d_s (.b (x47.1 != x49.1)) rfl (dg0 rfl) rfl rfl rfl rfl ?_
     refine d_nil (by kernel_rfl) ?_
     rcases bif_some h with ⟨h53, h⟩ | ⟨h53, h⟩
     ·
      refine c_t h53 rfl ?_
      refine c_sr ?_
      refine o_1 (.b false) rfl ?_
      refine o_nil (c_ret ?_)
      obtain rfl := Option.some.inj h
      exact ⟨⟨_, rfl, .r⟩, trivial, rfl⟩
     refine c_f h53 rfl ?_
     refine c_skip (c_region ?_)
     refine o_m2 (.i (wi (z26 + 1))) (.i (wi (z26 + 1))) rfl ?_
     refine o_nil ?_
     exact ⟨nl3, ((wi (z26 + 1)), x49.2, x47.2), [], Nat.lt_succ_self nl3, h, rfl, ⟨.inr ⟨_, rfl, pure_hpA _⟩, by (repeat (first | exact ObP.nil | refine ObP.cons (.inl rfl) ?_ | refine ObP.cons (.inr (fun _ => rfl)) ?_ | refine ObP.cons (.inr (ob_box (fl_noPt _ _))) ?_ | refine ObP.cons (.inr (ob_gb _ _)) ?_))⟩, ⟨(.vwn (by first | rfl | omega | (simp; done) | (dsimp only; omega) | (simp; omega))), .r, .r, .r, .r, .r, .r, .r, trivial⟩, (by ((refine nr_of ?_; repeat (first | exact nr_nil | refine nr_cons rfl ?_ | refine nr_cons (nr_gb _ _ _) ?_))))⟩
    refine c_f h32 rfl ?_
    refine c_sr ?_
    refine o_m2 (.b (x30.Kind == 2)) (.b (x30.Kind == 2)) rfl ?_
    refine o_nil ?_
    rcases bif_some h with ⟨h54, h⟩ | ⟨h54, h⟩
    ·
     refine c_t h54 rfl ?_
     refine c_seq ?_
     refine c_draw mixed (by kernel_rfl) ?_
     rcases ptM_some h with ⟨h55, h⟩ | ⟨i56, h55, h⟩
     ·
      refine d_h0 [] (e := [(96, .t (.d (.lit (.pointer none))))]) (ks := [96]) rfl (dg0 rfl) rfl rfl (fun S' hM hok => h_mv hM (.inl rfl) ((cpO_pt rfl).trans (pt_eq_none h55)) rfl (hok _ rfl rfl)) rfl ?_
      refine d_s (.ref 7 2) rfl (dg0 rfl) rfl rfl rfl rfl ?_
      refine d_s (.t (.agg [.s x30.E.Key, .i x30.E.Version, .i x30.E.Len, .i x30.E.First])) rfl (dg0 rfl) rfl rfl rfl rfl ?_
      obtain ⟨x57, h58, h⟩ := bind_some h
      refine d_h (e := [(HK, .hp (hpA x57.2)), (99, .i x57.1)]) (ks := [HK, 99]) rfl (dg0 rfl) rfl rfl (fun S' hM hk hok => h_call hM hk (σ := []) (fr := []) rfl rfl rfl (hok _ rfl rfl) rfl rfl rfl (fch_index_Index_Set _ _ z28 _ h58) (pure_hpA _) (pure_hpA _) rfl rfl rfl rfl (.cons (.plain .r rfl) (.cons (.plain .r rfl) .nil)) rfl (.t (.flat rfl))) rfl ?_
      refine d_s (.t (.view 0 0 41 1 z27.length)) rfl (dg0 rfl) rfl rfl rfl rfl ?_
      refine d_s (.ref 7 2) rfl (dg0 rfl) rfl rfl rfl rfl ?_
      refine d_s (.t (.agg [.s x30.E.Key, .i x30.E.Version, .i x30.E.Len, .i x30.E.First])) rfl (dg0 rfl) rfl rfl rfl rfl ?_
      obtain ⟨x59, h60, h⟩ := bind_some h
      refine d_hm [OB + 0] (e := [((OB + 0), .box (fl (dT (cSl 1 cU8)) x59.2)), (103, .i x59.1)]) (ks := [(OB + 0), 103]) rfl (dg0 rfl) rfl rfl (fun S' hM hk hS hok => h_callR hM hk (σ := [0]) (fr := []) rfl rfl rfl (hok _ rfl rfl) rfl rfl rfl (fch_R20_Set_v0 _ _ _ x57.2 _ h60) (pure_hpA _) rfl (by simp [A.flatO, fl_noPt]) (by simp [A.flatO, fl_noPt]) (cons_eq (hS (OB + 0) rfl) (rfl)) (.cons (argVw rfl rfl rfl) (.cons (.plain .r rfl) (.cons (.plain .r rfl) .nil))) rfl (.t (.flat rfl))) rfl ?_
      obtain ⟨x61, h62, h⟩ := bind_some h
      have h62 : x59.2.length = z27.length := lenI_eq h62
      refine d_s (.b (x57.1 != x59.1)) rfl (dg0 rfl) rfl rfl rfl rfl ?_
      refine d_nil (by kernel_rfl) ?_
      rcases bif_some h with ⟨h63, h⟩ | ⟨h63, h⟩
      ·
       refine c_t h63 rfl ?_
       refine c_sr ?_
       refine o_1 (.b false) rfl ?_
       refine o_nil (c_ret ?_)
       obtain rfl := Option.some.inj h
       exact ⟨⟨_, rfl, .r⟩, trivial, rfl⟩
      refine c_f h63 rfl ?_
      refine c_skip (c_region ?_)
      refine o_m2 (.i (wi (z26 + 1))) (.i (wi (z26 + 1))) rfl ?_
      refine o_nil ?_
      exact ⟨nl3, ((wi (z26 + 1)), x59.2, x57.2), [], Nat.lt_succ_self nl3, h, rfl, ⟨.inr ⟨_, rfl, pure_hpA _⟩, by (repeat (first | exact ObP.nil | refine ObP.cons (.inl rfl) ?_ | refine ObP.cons (.inr (fun _ => rfl)) ?_ | refine ObP.cons (.inr (ob_box (fl_noPt _ _))) ?_ | refine ObP.cons (.inr (ob_gb _ _)) ?_))⟩, ⟨(.vwn (by first | rfl | omega | (simp; done) | (dsimp only; omega) | (simp; omega))), .r, .r, .r, .r, .r, .r, .r, trivial⟩, (by ((refine nr_of ?_; repeat (first | exact nr_nil | refine nr_cons rfl ?_ | refine nr_cons (nr_gb _ _ _) ?_))))⟩
     refine d_h0 [] (e := [(96, .t (.hpt (cd 7 i56) 0))]) (ks := [96]) rfl (dg0 rfl) rfl rfl (fun S' hM hok => h_mv hM (.inl rfl) ((cpO_pt rfl).trans (pt_eq_some h55)) rfl (hok _ rfl rfl)) rfl ?_
     refine d_s (.ref 7 2) rfl (dg0 rfl) rfl rfl rfl rfl ?_
     refine d_s (.t (.agg [.s x30.E.Key, .i x30.E.Version, .i x30.E.Len, .i x30.E.First])) rfl (dg0 rfl) rfl rfl rfl rfl ?_
     obtain ⟨x64, h65, h⟩ := bind_some h
     refine d_h (e := [(HK, .hp (hpA x64.2)), (99, .i x64.1)]) (ks := [HK, 99]) rfl (dg0 rfl) rfl rfl (fun S' hM hk hok => h_call hM hk (σ := []) (fr := []) rfl rfl rfl (hok _ rfl rfl) rfl rfl rfl (fch_index_Index_Set _ _ z28 _ h65) (pure_hpA _) (pure_hpA _) rfl rfl rfl rfl (.cons (.hpt _ _) (.cons (.plain .r rfl) .nil)) rfl (.t (.flat rfl))) rfl ?_
     refine d_s (.t (.view 0 0 41 1 z27.length)) rfl (dg0 rfl) rfl rfl rfl rfl ?_
     refine d_s (.ref 7 2) rfl (dg0 rfl) rfl rfl rfl rfl ?_
     refine d_s (.t (.agg [.s x30.E.Key, .i x30.E.Version, .i x30.E.Len, .i x30.E.First])) rfl (dg0 rfl) rfl rfl rfl rfl ?_
     obtain ⟨x66, h67, h⟩ := bind_some h
     refine d_hm [OB + 0] (e := [((OB + 0), .box (fl (dT (cSl 1 cU8)) x66.2)), (103, .i x66.1)]) (ks := [(OB + 0), 103]) rfl (dg0 rfl) rfl rfl (fun S' hM hk hS hok => h_callR hM hk (σ := [0]) (fr := []) rfl rfl rfl (hok _ rfl rfl) rfl rfl rfl (fch_R20_Set_v0 _ _ _ x64.2 _ h67) (pure_hpA _) rfl (by simp [A.flatO, fl_noPt]) (by simp [A.flatO, fl_noPt]) (cons_eq (hS (OB + 0) rfl) (rfl)) (.cons (argVw rfl rfl rfl) (.cons (.plain .r rfl) (.cons (.plain .r rfl) .nil))) rfl (.t (.flat rfl))) rfl ?_
     obtain ⟨x68, h69, h⟩ := bind_some h
     have h69 : x66.2.length = z27.length := lenI_eq h69
     refine d_s (.b (x64.1 != x66.1)) rfl (dg0 rfl) rfl rfl rfl rfl ?_
     refine d_nil (by kernel_rfl) ?_
     rcases bif_some h with ⟨h70, h⟩ | ⟨h70, h⟩
     ·
      refine c_t h70 rfl ?_
      refine c_sr ?_
      refine o_1 (.b false) rfl ?_
      refine o_nil (c_ret ?_)
      obtain rfl := Option.some.inj h
      exact ⟨⟨_, rfl, .r⟩, trivial, rfl⟩
     refine c_f h70 rfl ?_
     refine c_skip (c_region ?_)
     refine o_m2 (.i (wi (z26 + 1))) (.i (wi (z26 + 1))) rfl ?_
     refine o_nil ?_
     exact ⟨nl3, ((wi (z26 + 1)), x66.2, x64.2), [], Nat.lt_succ_self nl3, h, rfl, ⟨.inr ⟨_, rfl, pure_hpA _⟩, by (repeat (first | exact ObP.nil | refine ObP.cons (.inl rfl) ?_ | refine ObP.cons (.inr (fun _ => rfl)) ?_ | refine ObP.cons (.inr (ob_box (fl_noPt _ _))) ?_ | refine ObP.cons (.inr (ob_gb _ _)) ?_))⟩, ⟨(.vwn (by first | rfl | omega | (simp; done) | (dsimp only; omega) | (simp; omega))), .r, .r, .r, .r, .r, .r, .r, trivial⟩, (by ((refine nr_of ?_; repeat (first | exact nr_nil | refine nr_cons rfl ?_ | refine nr_cons (nr_gb _ _ _) ?_))))⟩
    refine c_f h54 rfl ?_
    refine c_sr ?_
    refine o_m2 (.b (x30.Kind == 3)) (.b (x30.Kind == 3)) rfl ?_
    refine o_nil ?_
    rcases bif_some h with ⟨h71, h⟩ | ⟨h71, h⟩
    ·
     refine c_t h71 rfl ?_
     refine c_sr ?_
     refine o_of (e := [(108, .t ((ptT 7 x12.1)))]) (g0 rfl) (h_mv mR (.inl rfl) (cpO_pt rfl) rfl rfl) rfl ?_
     refine o_m3 (.ref 7 2) (.ref 7 2) (.s x30.E.Key) rfl ?_
     obtain ⟨x72, h73, h⟩ := bind_some h
     refine o_of (e := [(HK, .hp (hpA x72.2.2)), (112, .tup [.i x72.1, .i x72.2.1])]) (g0 rfl) (h_call mR rfl (σ := []) (fr := []) rfl rfl rfl rfl rfl rfl rfl (fch_index_Index_Drop _ _ z28 _ h73) (pure_hpA _) (pure_hpA _) rfl rfl rfl rfl (.cons (argPt rfl) (.cons (.plain .r rfl) .nil)) rfl (.tup (.cons (.flat rfl) (.cons (.flat rfl) .nil)))) rfl ?_
     refine o_m5 (.tup [.i x72.1, .i x72.2.1]) (.i x72.1) (.i x72.2.1) (.i x72.1) (.i x72.2.1) rfl ?_
     refine o_nil (c_sr ?_)
     refine o_m4 (.t (.view 0 0 41 1 z27.length)) (.ref 7 2) (.ref 7 2) (.s x30.E.Key) rfl ?_
     obtain ⟨x74, h75, h⟩ := bind_some h
     refine o_of (e := [((OB + 0), .box (fl (dT (cSl 1 cU8)) x74.2.2)), (120, .tup [.i x74.1, .i x74.2.1])]) (g0 rfl) (h_callR mR rfl (σ := [0]) (fr := []) rfl rfl rfl rfl rfl rfl rfl (fch_R20_Drop_v0 _ _ _ x72.2.2 _ h75) (pure_hpA _) rfl (by simp [A.flatO, fl_noPt]) (by simp [A.flatO, fl_noPt]) rfl (.cons (argVw rfl rfl rfl) (.cons (.plain .r rfl) (.cons (.plain .r rfl) .nil))) rfl (.tup (.cons (.flat rfl) (.cons (.flat rfl) .nil)))) rfl ?_
     obtain ⟨x76, h77, h⟩ := bind_some h
     have h77 : x74.2.2.length = z27.length := lenI_eq h77
     refine o_m5 (.tup [.i x74.1, .i x74.2.1]) (.i x74.1) (.i x74.2.1) (.i x74.1) (.i x74.2.1) rfl ?_
     refine o_nil (c_sr ?_)
     refine o_m4 (.i x72.1) (.i x74.1) (.b (x72.1 != x74.1)) (.b (x72.1 != x74.1)) rfl ?_
     rcases bif_some h with ⟨h78, h⟩ | ⟨h78, h⟩
     ·
      refine o_skip rfl rfl rfl h78 rfl rfl ?_
      refine o_skip rfl rfl rfl h78 rfl rfl ?_
      refine o_skip rfl rfl rfl h78 rfl rfl ?_
      refine o_pk (.b true) (b := true) h78 (g0 rfl) rfl rfl rfl rfl rfl ?_
      refine o_nil ?_
      refine c_t rfl rfl ?_
      refine c_sr ?_
      refine o_1 (.b false) rfl ?_
      refine o_nil (c_ret ?_)
      obtain rfl := Option.some.inj h
      exact ⟨⟨_, rfl, .r⟩, trivial, rfl⟩
     refine o_s (.i x72.2.1) (gy rfl rfl rfl h78) rfl rfl rfl ?_
     refine o_s (.i x74.2.1) (gy rfl rfl rfl h78) rfl rfl rfl ?_
     refine o_s (.b (x72.2.1 != x74.2.1)) (gy rfl rfl rfl h78) rfl rfl rfl ?_
     refine o_pk (.b (x72.2.1 != x74.2.1)) (b := false) h78 (g0 rfl) rfl rfl rfl rfl rfl ?_
     refine o_nil ?_
     rcases bif_some h with ⟨h79, h⟩ | ⟨h79, h⟩
     ·
      refine c_t h79 rfl ?_
      refine c_sr ?_
      refine o_1 (.b false) rfl ?_
      refine o_nil (c_ret ?_)
      obtain rfl := Option.some.inj h
      exact ⟨⟨_, rfl, .r⟩, trivial, rfl⟩
     refine c_f h79 rfl ?_
     refine c_skip (c_region ?_)
     refine o_m2 (.i (wi (z26 + 1))) (.i (wi (z26 + 1))) rfl ?_
     refine o_nil ?_
     exact ⟨nl3, ((wi (z26 + 1)), x74.2.2, x72.2.2), [], Nat.lt_succ_self nl3, h, rfl, ⟨.inr ⟨_, rfl, pure_hpA _⟩, by (repeat (first | exact ObP.nil | refine ObP.cons (.inl rfl) ?_ | refine ObP.cons (.inr (fun _ => rfl)) ?_ | refine ObP.cons (.inr (ob_box (fl_noPt _ _))) ?_ | refine ObP.cons (.inr (ob_gb _ _)) ?_))⟩, ⟨(.vwn (by first | rfl | omega | (simp; done) | (dsimp only; omega) | (simp; omega))), .r, .r, .r, .r, .r, .r, .r, trivial⟩, (by ((refine nr_of ?_; repeat (first | exact nr_nil | refine nr_cons rfl ?_ | refine nr_cons (nr_gb _ _ _) ?_))))⟩
    refine c_f h71 rfl ?_
    refine c_sr ?_
    refine o_of (e := [(39, .t ((ptT 7 x12.1)))]) (g0 rfl) (h_mv mR (.inl rfl) (cpO_pt rfl) rfl rfl) rfl ?_
    refine o_m3 (.ref 7 2) (.ref 7 2) (.s x30.E.Key) rfl ?_
    obtain ⟨x80, h81, h⟩ := bind_some h
    refine o_of (e := [(43, .tup [.agg [.s x80.1.Key, .i x80.1.Version, .i x80.1.Len, .i x80.1.First], .i x80.2.1, .i x80.2.2])]) (g0 rfl) (h_callR mR rfl (σ := []) (fr := []) rfl rfl rfl rfl rfl rfl rfl (fch_index_Index_Find _ _ z28 _ h81) (pure_hpA _) rfl rfl rfl rfl (.cons (argPt rfl) (.cons (.plain .r rfl) .nil)) rfl (.tup (.cons (.flat rfl) (.cons (.flat rfl) (.cons (.flat rfl) .nil))))) rfl ?_
    refine o_m5 (.tup [.agg [.s x80.1.Key, .i x80.1.Version, .i x80.1.Len, .i x80.1.First], .i x80.2.1, .i x80.2.2]) (.t (.agg [.s x80.1.Key, .i x80.1.Version, .i x80.1.Len, .i x80.1.First])) (.i x80.2.1) (.i x80.2.2) (.box [.s [], .i 0, .i 0, .i 0]) rfl ?_
    refine o_st (.box [.s x80.1.Key, .i x80.1.Version, .i x80.1.Len, .i x80.1.First]) (g0 rfl) rfl rfl rfl ?_
    refine o_m2 (.i x80.2.1) (.i x80.2.2) rfl ?_
    refine o_nil (c_sr ?_)
    refine o_m4 (.t (.view 0 0 41 1 z27.length)) (.ref 7 2) (.ref 7 2) (.s x30.E.Key) rfl ?_
    obtain ⟨x82, h83, h⟩ := bind_some h
    refine o_of (e := [((OB + 0), .box (fl (dT (cSl 1 cU8)) z27)), (52, .tup [.i x82.1, .i x82.2])]) (g0 rfl) (h_callR mR rfl (σ := [0]) (fr := []) rfl rfl rfl rfl rfl rfl rfl (fch_R20_Find_v0 _ _ _ z28 _ h83) (pure_hpA _) rfl (by simp [A.flatO, fl_noPt]) (by simp [A.flatO, fl_noPt]) rfl (.cons (argVw rfl rfl rfl) (.cons (.plain .r rfl) (.cons (.plain .r rfl) .nil))) rfl (.tup (.cons (.flat rfl) (.cons (.flat rfl) .nil)))) rfl ?_
    refine o_m5 (.tup [.i x82.1, .i x82.2]) (.i x82.1) (.i x82.2) (.i x82.1) (.i x82.2) rfl ?_
    refine o_nil (c_sr ?_)
    refine o_m4 (.i x80.2.1) (.i x82.1) (.b (x80.2.1 != x82.1)) (.b (x80.2.1 != x82.1)) rfl ?_
    rcases bif_some h with ⟨h84, h⟩ | ⟨h84, h⟩
    ·
     refine o_skip rfl rfl rfl h84 rfl rfl ?_
     refine o_skip rfl rfl rfl h84 rfl rfl ?_
     refine o_skip rfl rfl rfl h84 rfl rfl ?_
     refine o_pk (.b true) (b := true) h84 (g0 rfl) rfl rfl rfl rfl rfl ?_
     refine o_nil ?_
     refine c_t rfl rfl ?_
     refine c_sr ?_
     refine o_1 (.b false) rfl ?_
     refine o_nil (c_ret ?_)
     obtain rfl := Option.some.inj h
     exact ⟨⟨_, rfl, .r⟩, trivial, rfl⟩
    refine o_s (.i x80.2.2) (gy rfl rfl rfl h84) rfl rfl rfl ?_
    refine o_s (.i x82.2) (gy rfl rfl rfl h84) rfl rfl rfl ?_
    refine o_s (.b (x80.2.2 != x82.2)) (gy rfl rfl rfl h84) rfl rfl rfl ?_
    refine o_pk (.b (x80.2.2 != x82.2)) (b := false) h84 (g0 rfl) rfl rfl rfl rfl rfl ?_
    refine o_nil ?_
    rcases bif_some h with ⟨h85, h⟩ | ⟨h85, h⟩
    ·
     refine c_t h85 rfl ?_
     refine c_sr ?_
     refine o_1 (.b false) rfl ?_
     refine o_nil (c_ret ?_)
     obtain rfl := Option.some.inj h
     exact ⟨⟨_, rfl, .r⟩, trivial, rfl⟩
    refine c_f h85 rfl ?_
    refine c_skip (c_region ?_)
    refine o_m2 (.i (wi (z26 + 1))) (.i (wi (z26 + 1))) rfl ?_
    refine o_nil ?_
    exact ⟨nl3, ((wi (z26 + 1)), z27, z28), [], Nat.lt_succ_self nl3, h, rfl, ⟨.inr ⟨_, rfl, pure_hpA _⟩, by (repeat (first | exact ObP.nil | refine ObP.cons (.inl rfl) ?_ | refine ObP.cons (.inr (fun _ => rfl)) ?_ | refine ObP.cons (.inr (ob_box (fl_noPt _ _))) ?_ | refine ObP.cons (.inr (ob_gb _ _)) ?_))⟩, ⟨.r, .r, .r, .r, .r, .r, .r, .r, trivial⟩, (by ((refine nr_of ?_; repeat (first | exact nr_nil | refine nr_cons rfl ?_ | refine nr_cons (nr_gb _ _ _) ?_))))⟩
   refine c_f h29 rfl ?_
   refine c_exit ?_
   exact ⟨(z27, z28), [], h, rfl, ⟨.inr ⟨_, rfl, pure_hpA _⟩, by (repeat (first | exact ObP.nil | refine ObP.cons (.inl rfl) ?_ | refine ObP.cons (.inr (fun _ => rfl)) ?_ | refine ObP.cons (.inr (ob_box (fl_noPt _ _))) ?_ | refine ObP.cons (.inr (ob_gb _ _)) ?_))⟩, ⟨.r, .r, .r, .r, trivial⟩, (by ((refine nr_of ?_; repeat (first | exact nr_nil | refine nr_cons rfl ?_ | refine nr_cons (nr_gb _ _ _) ?_))))⟩
 rintro ⟨y14, y15⟩ h
 refine c_seq (c_sr ?_)
 refine o_1 (.t (.view 0 0 41 1 y14.length)) rfl ?_
 refine o_of (e := [(133, .i (y14.length : Int))]) (g0 rfl) (h_lln mR rfl rfl rfl rfl rfl rfl) rfl ?_
 refine o_1 (.i 0) rfl ?_
 refine o_nil (c_block ?_)
 refine c_fuelH (fun (z16 : Int) => [(3, .t (.view 0 0 41 1 y14.length)), (4, .t ((ptT 5 x10.1))), (133, .i (y14.length : Int)), (134, .i z16), ((OB + 0), .box (fl (dT (cSl 1 cU8)) y14)), (HK, .hp (hpA y15))]) (fun nl2 => (fun (z16 : Int) => m_L20_IndexDoes_l2 y14 x10 y15 nl2 z16 = some r)) (y14.length + 1) 0 [] h rfl ⟨.inr ⟨_, rfl, pure_hpA _⟩, by (repeat (first | exact ObP.nil | refine ObP.cons (.inl rfl) ?_ | refine ObP.cons (.inr (fun _ => rfl)) ?_ | refine ObP.cons (.inr (ob_box (fl_noPt _ _))) ?_ | refine ObP.cons (.inr (ob_gb _ _)) ?_))⟩ ⟨.r, .r, .r, .r, .r, .r, trivial⟩ (by ((refine nr_of ?_; repeat (first | exact nr_nil | refine nr_cons rfl ?_ | refine nr_cons (nr_gb _ _ _) ?_)))) ?_
 rintro nl2 z16 h
 cases nl2 with
 | zero => exact none_ne h
 | succ nl2 =>
  refine c_sr ?_
  refine o_1 (.b (decide (z16 < (y14.length : Int)))) rfl ?_
  refine o_nil (c_seq ?_)
  rcases bif_some h with ⟨h17, h⟩ | ⟨h17, h⟩
  ·
   refine c_t h17 rfl ?_
   refine c_skip (c_seq (c_block (c_sr ?_)))
   refine o_m2 (.i z16) (.i z16) rfl ?_
   refine o_nil (c_sr ?_)
   refine o_of (e := [(138, .t ((ptT 5 x10.1)))]) (g0 rfl) (h_mv mR (.inl rfl) (cpO_pt rfl) rfl rfl) rfl ?_
   refine o_1 (.i z16) rfl ?_
   obtain ⟨x18, h19, h⟩ := bind_some h
   refine o_of (e := [(140, .tup [.y x18.1, .i x18.2])]) (g0 rfl) (h_callR mR rfl (σ := []) (fr := []) rfl rfl rfl rfl rfl rfl rfl (fch_wal_Txn_Read _ _ y15 _ h19) (pure_hpA _) rfl rfl rfl rfl (.cons (argPt rfl) (.cons (.plain .r rfl) .nil)) rfl (.tup (.cons (.flat rfl) (.cons (.flat rfl) .nil)))) rfl ?_
   refine o_m5 (.tup [.y x18.1, .i x18.2]) (.y x18.1) (.i x18.2) (.y x18.1) (.i x18.2) rfl ?_
   refine o_nil (c_sr ?_)
   refine o_m3 (.i x18.2) (.b (x18.2 != 0)) (.b (x18.2 != 0)) rfl ?_
   rcases bif_some h with ⟨h20, h⟩ | ⟨h20, h⟩
   ·
    refine o_skip rfl rfl rfl h20 rfl rfl ?_
    refine o_skip rfl rfl rfl h20 rfl rfl ?_
    refine o_skip rfl rfl rfl h20 rfl rfl ?_
    refine o_skip rfl rfl rfl h20 rfl rfl ?_
    refine o_skip rfl rfl rfl h20 rfl rfl ?_
    refine o_skip rfl rfl rfl h20 rfl rfl ?_
    refine o_skip rfl rfl rfl h20 rfl rfl ?_
    refine o_pk (.b true) (b := true) h20 (g0 rfl) rfl rfl rfl rfl rfl ?_
    refine o_nil ?_
    refine c_t rfl rfl ?_
    refine c_sr ?_
    refine o_1 (.b false) rfl ?_
    refine o_nil (c_ret ?_)
    obtain rfl := Option.some.inj h
    exact ⟨⟨_, rfl, .r⟩, trivial, rfl⟩
   refine o_s (.y x18.1) (gy rfl rfl rfl h20) rfl rfl rfl ?_
   refine o_s (.t (.view 0 0 41 1 y14.length)) (gy rfl rfl rfl h20) rfl rfl rfl ?_
   refine o_s (.i z16) (gy rfl rfl rfl h20) rfl rfl rfl ?_
   obtain ⟨x21, h22, h⟩ := bind_some h
   refine o_of (e := [(149, .ref (OB + 0) (0 + Int.toNat z16 * 1))]) (gy rfl rfl rfl h20) (h_lix mR rfl rfl rfl rfl rfl (idxV rfl h22) rfl rfl rfl) rfl ?_
   refine o_of (e := [(150, .y x21)]) (gy rfl rfl rfl h20) (h_lld mR rfl rfl rfl rfl (fl_at h22 rfl (fun _ => rfl)) rfl rfl rfl) rfl ?_
   obtain ⟨x23, h24, h⟩ := bind_some h
   refine o_ca (fc_R01_Same _ _ _ h24) (gy rfl rfl rfl h20) rfl rfl rfl rfl rfl rfl rfl (.cons .r (.cons .r .nil)) rfl rfl ?_
   refine o_s (.b (!x23)) (gy rfl rfl rfl h20) rfl rfl rfl ?_
   refine o_pk (.b (!x23)) (b := false) h20 (g0 rfl) rfl rfl rfl rfl rfl ?_
   refine o_nil ?_
   rcases bif_some h with ⟨h25, h⟩ | ⟨h25, h⟩
   ·
    refine c_t h25 rfl ?_
    refine c_sr ?_
    refine o_1 (.b false) rfl ?_
    refine o_nil (c_ret ?_)
    obtain rfl := Option.some.inj h
    exact ⟨⟨_, rfl, .r⟩, trivial, rfl⟩
   refine c_f h25 rfl ?_
   refine c_skip (c_region ?_)
   refine o_m2 (.i (wi (z16 + 1))) (.i (wi (z16 + 1))) rfl ?_
   refine o_nil ?_
   exact ⟨nl2, (wi (z16 + 1)), [], Nat.lt_succ_self nl2, h, rfl, ⟨.inr ⟨_, rfl, pure_hpA _⟩, by (repeat (first | exact ObP.nil | refine ObP.cons (.inl rfl) ?_ | refine ObP.cons (.inr (fun _ => rfl)) ?_ | refine ObP.cons (.inr (ob_box (fl_noPt _ _))) ?_ | refine ObP.cons (.inr (ob_gb _ _)) ?_))⟩, ⟨.r, .r, .r, .r, .r, .r, trivial⟩, (by ((refine nr_of ?_; repeat (first | exact nr_nil | refine nr_cons rfl ?_ | refine nr_cons (nr_gb _ _ _) ?_))))⟩
  refine c_f h17 rfl ?_
  refine c_exit (c_sr ?_)
  refine o_1 (.b true) rfl ?_
  refine o_nil (c_ret ?_)
  obtain rfl := Option.some.inj h
  exact ⟨⟨_, rfl, .r⟩, trivial, rfl⟩
end Go.Proofs.Ytjomnccladjpgaa
