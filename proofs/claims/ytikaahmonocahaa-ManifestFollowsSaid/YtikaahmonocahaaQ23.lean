/-
  Walks of functions: each function does what its model tells. Printed by a program of this claim's own (gen.py) off the given translation.
-/
import Derived.Test.YtikaahmonocahaaQ20
import Derived.Test.YtikaahmonocahaaQ19
import Derived.Test.YtikaahmonocahaaQ16
import Derived.Test.YtikaahmonocahaaQ17
import Derived.Test.YtikaahmonocahaaQ21
import Derived.Test.YtikaahmonocahaaQ22
namespace Go.Proofs.Ytikaahmonocahaa
open Go Go.RowKit
set_option linter.unusedVariables false
set_option maxHeartbeats 4000000
set_option maxRecDepth 20000
theorem fc_cmp_Compare_string (p0 : (List UInt8)) (p1 : (List UInt8)) (r : Int) (h : m_cmp_Compare_string p0 p1 = some r) : FC Try.prog 57 [.t (.d (.lit (.string ⟨⟨p0⟩⟩))), .t (.d (.lit (.string ⟨⟨p1⟩⟩)))] [] (.t (.d (.lit (.int .i64 r)))) := by
 refine fc_mk (rs := [.tmp 4]) (n := 20) Try.func57 rfl rfl (Nat.le_of_ble_eq_true rfl) rfl (pins := []) rfl (L := [(0, .t (.d (.lit (.string ⟨⟨p0⟩⟩)))), (1, .t (.d (.lit (.string ⟨⟨p1⟩⟩))))]) rfl ?_
 refine c_sr ?_
 refine o_s (.t (.d (.lit (.int .i64 0)))) (g0 rfl) rfl rfl rfl ?_
 refine o_nil ?_
 repeat (first | refine k1 ?_ | refine k4 ?_)
 refine c_sr ?_
 refine o_s (.t (.d (.lit (.string ⟨⟨p0⟩⟩)))) (g0 rfl) rfl rfl rfl ?_
 obtain ⟨x1, h2, h⟩ := bind_some h
 refine o_ca (fc_cmp_isNaN_string _ _ h2) (g0 rfl) rfl rfl rfl rfl rfl rfl rfl (.cons (.refl _) .nil) rfl rfl ?_
 refine o_s (.t (.d (.lit (.bool x1)))) (g0 rfl) rfl rfl rfl ?_
 refine o_nil ?_
 repeat (first | refine k1 ?_ | refine k4 ?_)
 refine c_sr ?_
 refine o_s (.t (.d (.lit (.string ⟨⟨p1⟩⟩)))) (g0 rfl) rfl rfl rfl ?_
 obtain ⟨x3, h4, h⟩ := bind_some h
 refine o_ca (fc_cmp_isNaN_string _ _ h4) (g0 rfl) rfl rfl rfl rfl rfl rfl rfl (.cons (.refl _) .nil) rfl rfl ?_
 refine o_s (.t (.d (.lit (.bool x3)))) (g0 rfl) rfl rfl rfl ?_
 refine o_nil ?_
 repeat (first | refine k1 ?_ | refine k4 ?_)
 refine c_seq ?_
 refine c_sr ?_
 refine o_s (.t (.d (.lit (.bool x1)))) (g0 rfl) rfl rfl rfl ?_
 refine o_nil ?_
 repeat (first | refine k1 ?_ | refine k4 ?_)
 rcases bif_some h with ⟨h5, h⟩ | ⟨h5, h⟩
 ·
  refine c_t h5 rfl ?_
  refine c_seq ?_
  refine c_sr ?_
  refine o_s (.t (.d (.lit (.bool x3)))) (g0 rfl) rfl rfl rfl ?_
  refine o_nil ?_
  repeat (first | refine k1 ?_ | refine k4 ?_)
  rcases bif_some h with ⟨h6, h⟩ | ⟨h6, h⟩
  ·
   refine c_t h6 rfl ?_
   refine c_sr ?_
   refine o_s (.t (.d (.lit (.int .i64 0)))) (g0 rfl) rfl rfl rfl ?_
   refine o_nil ?_
   repeat (first | refine k1 ?_ | refine k4 ?_)
   refine c_ret ?_
   repeat (first | refine k3 ?_ | refine k5 ?_)
   obtain rfl := Option.some.inj h
   exact end0 rfl (.refl _)
  ·
   refine c_f h6 rfl ?_
   refine c_skip ?_
   repeat (first | refine k1 ?_ | refine k4 ?_)
   refine c_sr ?_
   refine o_s (.t (.d (.lit (.int .i64 (-1))))) (g0 rfl) rfl rfl rfl ?_
   refine o_nil ?_
   repeat (first | refine k1 ?_ | refine k4 ?_)
   refine c_ret ?_
   repeat (first | refine k3 ?_ | refine k5 ?_)
   obtain rfl := Option.some.inj h
   exact end0 rfl (.refl _)
 ·
  refine c_f h5 rfl ?_
  refine c_skip ?_
  repeat (first | refine k1 ?_ | refine k4 ?_)
  refine c_seq ?_
  refine c_sr ?_
  refine o_s (.t (.d (.lit (.bool x3)))) (g0 rfl) rfl rfl rfl ?_
  refine o_nil ?_
  repeat (first | refine k1 ?_ | refine k4 ?_)
  rcases bif_some h with ⟨h7, h⟩ | ⟨h7, h⟩
  ·
   refine c_t h7 rfl ?_
   refine c_sr ?_
   refine o_s (.t (.d (.lit (.int .i64 1)))) (g0 rfl) rfl rfl rfl ?_
   refine o_nil ?_
   repeat (first | refine k1 ?_ | refine k4 ?_)
   refine c_ret ?_
   repeat (first | refine k3 ?_ | refine k5 ?_)
   obtain rfl := Option.some.inj h
   exact end0 rfl (.refl _)
  ·
   refine c_f h7 rfl ?_
   refine c_skip ?_
   repeat (first | refine k1 ?_ | refine k4 ?_)
   refine c_seq ?_
   refine c_sr ?_
   refine o_s (.t (.d (.lit (.string ⟨⟨p0⟩⟩)))) (g0 rfl) rfl rfl rfl ?_
   refine o_s (.t (.d (.lit (.string ⟨⟨p1⟩⟩)))) (g0 rfl) rfl rfl rfl ?_
   refine o_c (g0 rfl) rfl rfl rfl (congrArg (fun z => A.t (.d (.lit (.bool z)))) (s_lt _ _)) trivial ?_
   refine o_nil ?_
   repeat (first | refine k1 ?_ | refine k4 ?_)
   rcases bif_some h with ⟨h8, h⟩ | ⟨h8, h⟩
   ·
    refine c_t h8 rfl ?_
    refine c_sr ?_
    refine o_s (.t (.d (.lit (.int .i64 (-1))))) (g0 rfl) rfl rfl rfl ?_
    refine o_nil ?_
    repeat (first | refine k1 ?_ | refine k4 ?_)
    refine c_ret ?_
    repeat (first | refine k3 ?_ | refine k5 ?_)
    obtain rfl := Option.some.inj h
    exact end0 rfl (.refl _)
   ·
    refine c_f h8 rfl ?_
    refine c_skip ?_
    repeat (first | refine k1 ?_ | refine k4 ?_)
    refine c_seq ?_
    refine c_sr ?_
    refine o_s (.t (.d (.lit (.string ⟨⟨p0⟩⟩)))) (g0 rfl) rfl rfl rfl ?_
    refine o_s (.t (.d (.lit (.string ⟨⟨p1⟩⟩)))) (g0 rfl) rfl rfl rfl ?_
    refine o_c (g0 rfl) rfl rfl rfl (congrArg (fun z => A.t (.d (.lit (.bool z)))) (s_gt _ _)) trivial ?_
    refine o_nil ?_
    repeat (first | refine k1 ?_ | refine k4 ?_)
    rcases bif_some h with ⟨h9, h⟩ | ⟨h9, h⟩
    ·
     refine c_t h9 rfl ?_
     refine c_sr ?_
     refine o_s (.t (.d (.lit (.int .i64 1)))) (g0 rfl) rfl rfl rfl ?_
     refine o_nil ?_
     repeat (first | refine k1 ?_ | refine k4 ?_)
     refine c_ret ?_
     repeat (first | refine k3 ?_ | refine k5 ?_)
     obtain rfl := Option.some.inj h
     exact end0 rfl (.refl _)
    ·
     refine c_f h9 rfl ?_
     refine c_skip ?_
     repeat (first | refine k1 ?_ | refine k4 ?_)
     refine c_sr ?_
     refine o_s (.t (.d (.lit (.int .i64 0)))) (g0 rfl) rfl rfl rfl ?_
     refine o_nil ?_
     repeat (first | refine k1 ?_ | refine k4 ?_)
     refine c_ret ?_
     repeat (first | refine k3 ?_ | refine k5 ?_)
     obtain rfl := Option.some.inj h
     exact end0 rfl (.refl _)

theorem fc_role_Share_c1 (p0 : S_api_Member) (p1 : S_api_Member) (r : Int) (h : m_role_Share_c1 p0 p1 = some r) : FC Try.prog 56 [.t (.agg [.lit (.string ⟨⟨p0.Name⟩⟩), .lit (.int .i64 p0.Role)]), .t (.agg [.lit (.string ⟨⟨p1.Name⟩⟩), .lit (.int .i64 p1.Role)])] [] (.t (.d (.lit (.int .i64 r)))) := by
 refine fc_mk (rs := [.tmp 4]) (n := 10) Try.func56 rfl rfl (Nat.le_of_ble_eq_true rfl) rfl (pins := []) rfl (L := [(0, .t (.agg [.lit (.string ⟨⟨p0.Name⟩⟩), .lit (.int .i64 p0.Role)])), (1, .t (.agg [.lit (.string ⟨⟨p1.Name⟩⟩), .lit (.int .i64 p1.Role)]))]) rfl ?_
 refine c_sr ?_
 refine o_s (.box [.d (.lit (.string ⟨⟨p0.Name⟩⟩)), .d (.lit (.int .i64 p0.Role))]) (g0 rfl) rfl rfl rfl ?_
 refine o_s (.box [.d (.lit (.string ⟨⟨p1.Name⟩⟩)), .d (.lit (.int .i64 p1.Role))]) (g0 rfl) rfl rfl rfl ?_
 refine o_s (.t (.d (.lit (.int .i64 0)))) (g0 rfl) rfl rfl rfl ?_
 refine o_nil ?_
 repeat (first | refine k1 ?_ | refine k4 ?_)
 refine c_sr ?_
 refine o_s (.ref 2 0) (g0 rfl) rfl rfl rfl ?_
 refine o_s (.t (.d (.lit (.string ⟨⟨p0.Name⟩⟩)))) (g0 rfl) rfl rfl rfl ?_
 refine o_s (.ref 3 0) (g0 rfl) rfl rfl rfl ?_
 refine o_s (.t (.d (.lit (.string ⟨⟨p1.Name⟩⟩)))) (g0 rfl) rfl rfl rfl ?_
 obtain ⟨x1, h2, h⟩ := bind_some h
 refine o_ca (fc_cmp_Compare_string _ _ _ h2) (g0 rfl) rfl rfl rfl rfl rfl rfl rfl (.cons (.refl _) (.cons (.refl _) .nil)) rfl rfl ?_
 refine o_s (.t (.d (.lit (.int .i64 x1)))) (g0 rfl) rfl rfl rfl ?_
 refine o_nil ?_
 repeat (first | refine k1 ?_ | refine k4 ?_)
 refine c_ret ?_
 repeat (first | refine k3 ?_ | refine k5 ?_)
 obtain rfl := Option.some.inj h
 exact end0 rfl (.refl _)

theorem fch_slices_insertionSortCmpFunc_Member_v0 (p0 : (List S_api_Member)) (p1 : Int) (p2 : Int) (F3 : Nat) (C3 : List (List D)) (p3 : (S_api_Member → S_api_Member → Option Int)) (hp3 : ∀ (a0 : S_api_Member) (a1 : S_api_Member) r, p3 a0 a1 = some r → FC Try.prog F3 ([.t (.agg [.lit (.string ⟨⟨a0.Name⟩⟩), .lit (.int .i64 a0.Role)]), .t (.agg [.lit (.string ⟨⟨a1.Name⟩⟩), .lit (.int .i64 a1.Role)])] ++ C3.map A.imm) [] (.t (.d (.lit (.int .i64 r))))) (hf3 : ∃ fn, Try.prog.funcs[F3]? = some fn ∧ fn.body.isNone = false ∧ (fn.name == "runtime.NumGoroutine") = false) (w0 : Hp) (r : (List S_api_Member)) (h : m_slices_insertionSortCmpFunc_Member_v0 p0 p1 p2 p3 = some r) : FCH Try.prog 72 [.t (.view 0 0 35 2 p0.length), .t (.d (.lit (.int .i64 p1))), .t (.d (.lit (.int .i64 p2))), .t (.d (.clo F3 C3))] [.box (fl (dT cS_api_Member) p0)] [.box (fl (dT cS_api_Member) r)] (hpA w0) (hpA w0) (.tup []) := by
 refine fch_mk (rs := []) (n := 53) [] Try.func72 rfl rfl (Nat.le_of_ble_eq_true rfl) rfl (pins := [OB + 0]) rfl (L := [(HK, .hp (hpA w0)), (OB + 0, .box (fl (dT cS_api_Member) p0)), (0, .t (.view 0 0 35 2 p0.length)), (1, .t (.d (.lit (.int .i64 p1)))), (2, .t (.d (.lit (.int .i64 p2)))), (3, .t (.d (.clo F3 C3)))]) rfl ?_
 refine c_sr ?_
 refine o_s (.t (.d (.lit (.int .i64 p1)))) (g0 rfl) rfl rfl rfl ?_
 refine o_s (.t (.d (.lit (.int .i64 (wi (p1 + 1)))))) (g0 rfl) rfl rfl rfl ?_
 refine o_s (.t (.d (.lit (.int .i64 (wi (p1 + 1)))))) (g0 rfl) rfl rfl rfl ?_
 refine o_nil ?_
 repeat (first | refine k1 ?_ | refine k4 ?_)
 refine c_block ?_
 refine c_fuelH (fun (q : Int × (List S_api_Member)) => [(0, .t (.view 0 0 35 2 q.2.length)), (1, .t (.d (.lit (.int .i64 p1)))), (2, .t (.d (.lit (.int .i64 p2)))), (3, .t (.d (.clo F3 C3))), (8, .t (.d (.lit (.int .i64 q.1)))), ((OB + 0), .box (fl (dT cS_api_Member) q.2)), (HK, .hp (hpA w0))]) (fun nl1 => (fun (q : Int × (List S_api_Member)) => m_slices_insertionSortCmpFunc_Member_v0_l1 p2 p1 p3 nl1 q.1 q.2 = some r)) (Int.toNat p2 + 1) ((wi (p1 + 1)), p0) [] h rfl ⟨.inr ⟨_, rfl, pure_hpA _⟩, by (repeat (first | exact ObP.nil | refine ObP.cons (.inl rfl) ?_ | refine ObP.cons (.inr (fun _ => rfl)) ?_ | refine ObP.cons (.inr (ob_box (fl_noPt _ _))) ?_ | refine ObP.cons (.inr (ob_gb _ _)) ?_))⟩ ⟨(.refl _), ⟨(.refl _), ⟨(.refl _), ⟨(.refl _), ⟨(.refl _), ⟨(.refl _), ⟨(.refl _), trivial⟩⟩⟩⟩⟩⟩⟩ rfl ?_
 rintro nl1 ⟨z1, z2⟩ h
 cases nl1 with
 | zero => exact none_ne h
 | succ nl1 =>
  refine c_seq ?_
  refine c_sr ?_
  refine o_s (.t (.d (.lit (.int .i64 z1)))) (g0 rfl) rfl rfl rfl ?_
  refine o_s (.t (.d (.lit (.int .i64 p2)))) (g0 rfl) rfl rfl rfl ?_
  refine o_s (.t (.d (.lit (.bool (decide (z1 < p2)))))) (g0 rfl) rfl rfl rfl ?_
  refine o_nil ?_
  repeat (first | refine k1 ?_ | refine k4 ?_)
  rcases bif_some h with ⟨h3, h⟩ | ⟨h3, h⟩
  ·
   refine c_t h3 rfl ?_
   refine c_skip ?_
   repeat (first | refine k1 ?_ | refine k4 ?_)
   refine c_cutH (fun (y4 : (List S_api_Member)) => [(0, .t (.view 0 0 35 2 y4.length)), (1, .t (.d (.lit (.int .i64 p1)))), (2, .t (.d (.lit (.int .i64 p2)))), (3, .t (.d (.clo F3 C3))), (8, .t (.d (.lit (.int .i64 z1)))), ((OB + 0), .box (fl (dT cS_api_Member) y4)), (HK, .hp (hpA w0))]) (fun (y4 : (List S_api_Member)) => m_slices_insertionSortCmpFunc_Member_v0_j2 (m_slices_insertionSortCmpFunc_Member_v0_l1 p2 p1 p3 nl1) z1 y4 = some r) ?_ ?_
   ·
    refine c_block ?_
    refine c_sr ?_
    refine o_s (.t (.d (.lit (.int .i64 z1)))) (g0 rfl) rfl rfl rfl ?_
    refine o_s (.t (.d (.lit (.int .i64 z1)))) (g0 rfl) rfl rfl rfl ?_
    refine o_nil ?_
    repeat (first | refine k1 ?_ | refine k4 ?_)
    refine c_block ?_
    refine c_fuelH (fun (q : Int × (List S_api_Member)) => [(0, .t (.view 0 0 35 2 q.2.length)), (1, .t (.d (.lit (.int .i64 p1)))), (2, .t (.d (.lit (.int .i64 p2)))), (3, .t (.d (.clo F3 C3))), (8, .t (.d (.lit (.int .i64 z1)))), (9, .t (.d (.lit (.int .i64 q.1)))), ((OB + 0), .box (fl (dT cS_api_Member) q.2)), (HK, .hp (hpA w0))]) (fun nl3 => (fun (q : Int × (List S_api_Member)) => m_slices_insertionSortCmpFunc_Member_v0_l3 (m_slices_insertionSortCmpFunc_Member_v0_l1 p2 p1 p3 nl1) p1 p3 z1 nl3 q.1 q.2 = some r)) (Int.toNat z1 + 1) (z1, z2) [] h rfl ⟨.inr ⟨_, rfl, pure_hpA _⟩, by (repeat (first | exact ObP.nil | refine ObP.cons (.inl rfl) ?_ | refine ObP.cons (.inr (fun _ => rfl)) ?_ | refine ObP.cons (.inr (ob_box (fl_noPt _ _))) ?_ | refine ObP.cons (.inr (ob_gb _ _)) ?_))⟩ ⟨(.refl _), ⟨(.refl _), ⟨(.refl _), ⟨(.refl _), ⟨(.refl _), ⟨(.refl _), ⟨(.refl _), ⟨(.refl _), trivial⟩⟩⟩⟩⟩⟩⟩⟩ rfl ?_
    rintro nl3 ⟨z5, z6⟩ h
    cases nl3 with
    | zero => exact none_ne h
    | succ nl3 =>
     refine c_seq ?_
     refine c_seq ?_
     refine c_draw mixed (by kernel_rfl) ?_
     refine d_s (.t (.d (.lit (.int .i64 z5)))) rfl (dg0 rfl) rfl rfl rfl rfl ?_
     refine d_s (.t (.d (.lit (.int .i64 p1)))) rfl (dg0 rfl) rfl rfl rfl rfl ?_
     refine d_s (.t (.d (.lit (.bool (decide (z5 > p1)))))) rfl (dg0 rfl) rfl rfl rfl rfl ?_
     refine d_s (.t (.d (.lit (.bool (decide (z5 > p1)))))) rfl (dg0 rfl) rfl rfl rfl rfl ?_
     rcases bif_some h with ⟨h7, h⟩ | ⟨h7, h⟩
     ·
      refine d_s (.t (.d (.clo F3 C3))) rfl (dgy rfl rfl rfl rfl h7) rfl rfl rfl rfl ?_
      refine d_s (.t (.view 0 0 35 2 z6.length)) rfl (dgy rfl rfl rfl rfl h7) rfl rfl rfl rfl ?_
      refine d_s (.t (.d (.lit (.int .i64 z5)))) rfl (dgy rfl rfl rfl rfl h7) rfl rfl rfl rfl ?_
      obtain ⟨x8, h9, h⟩ := bind_some h
      refine d_h (e := [(25, .ref (OB + 0) (0 + Int.toNat z5 * 2))]) (ks := [25]) rfl (dgy rfl rfl rfl rfl h7) rfl rfl (fun S' hM hk hok => h_lix hM rfl rfl rfl rfl rfl (idxV rfl h9) rfl rfl (hok _ rfl rfl)) rfl ?_
      refine d_h (e := [(26, .t (.agg [.lit (.string ⟨⟨x8.Name⟩⟩), .lit (.int .i64 x8.Role)]))]) (ks := [26]) rfl (dgy rfl rfl rfl rfl h7) rfl rfl (fun S' hM hk hok => h_llr hM rfl rfl rfl rfl (flr_at (k := 2) h9 (fun _ => rfl)) rfl rfl rfl rfl rfl (hok _ rfl rfl)) rfl ?_
      refine d_s (.t (.view 0 0 35 2 z6.length)) rfl (dgy rfl rfl rfl rfl h7) rfl rfl rfl rfl ?_
      refine d_s (.t (.d (.lit (.int .i64 z5)))) rfl (dgy rfl rfl rfl rfl h7) rfl rfl rfl rfl ?_
      refine d_s (.t (.d (.lit (.int .i64 (wi (z5 - 1)))))) rfl (dgy rfl rfl rfl rfl h7) rfl rfl rfl rfl ?_
      obtain ⟨x10, h11, h⟩ := bind_some h
      refine d_h (e := [(30, .ref (OB + 0) (0 + Int.toNat (wi (z5 - 1)) * 2))]) (ks := [30]) rfl (dgy rfl rfl rfl rfl h7) rfl rfl (fun S' hM hk hok => h_lix hM rfl rfl rfl rfl rfl (idxV rfl h11) rfl rfl (hok _ rfl rfl)) rfl ?_
      refine d_h (e := [(31, .t (.agg [.lit (.string ⟨⟨x10.Name⟩⟩), .lit (.int .i64 x10.Role)]))]) (ks := [31]) rfl (dgy rfl rfl rfl rfl h7) rfl rfl (fun S' hM hk hok => h_llr hM rfl rfl rfl rfl (flr_at (k := 2) h11 (fun _ => rfl)) rfl rfl rfl rfl rfl (hok _ rfl rfl)) rfl ?_
      obtain ⟨x12, h13, h⟩ := bind_some h
      refine d_cc (hp3 _ _ _ h13) rfl (dgy rfl rfl rfl rfl h7) rfl rfl rfl rfl rfl hf3.choose_spec.1 hf3.choose_spec.2.1 hf3.choose_spec.2.2 (.cons (.refl _) (.cons (.refl _) .nil)) rfl rfl ?_
      refine d_s (.t (.d (.lit (.bool (decide (x12 < 0)))))) rfl (dgy rfl rfl rfl rfl h7) rfl rfl rfl rfl ?_
      refine d_pk (.t (.d (.lit (.bool (decide (x12 < 0)))))) (b := true) h7 rfl (dg0 rfl) rfl rfl rfl rfl rfl rfl ?_
      refine d_nil (by kernel_rfl) ?_
      repeat (first | refine k1 ?_ | refine k2 ?_ | refine k3 ?_ | refine k4 ?_ | refine k5 ?_ | refine k6 ?_ | refine k7 rfl ?_)
      rcases bif_some h with ⟨h14, h⟩ | ⟨h14, h⟩
      ·
       refine c_t h14 rfl ?_
       refine c_skip ?_
       repeat (first | refine k1 ?_ | refine k4 ?_)
       refine c_seq ?_
       refine c_block ?_
       refine c_draw mixed (by kernel_rfl) ?_
       refine d_s (.t (.view 0 0 35 2 z6.length)) rfl (dg0 rfl) rfl rfl rfl rfl ?_
       refine d_s (.t (.d (.lit (.int .i64 z5)))) rfl (dg0 rfl) rfl rfl rfl rfl ?_
       refine d_s (.t (.view 0 0 35 2 z6.length)) rfl (dg0 rfl) rfl rfl rfl rfl ?_
       refine d_s (.t (.d (.lit (.int .i64 z5)))) rfl (dg0 rfl) rfl rfl rfl rfl ?_
       refine d_s (.t (.d (.lit (.int .i64 (wi (z5 - 1)))))) rfl (dg0 rfl) rfl rfl rfl rfl ?_
       refine d_s (.t (.view 0 0 35 2 z6.length)) rfl (dg0 rfl) rfl rfl rfl rfl ?_
       refine d_s (.t (.d (.lit (.int .i64 z5)))) rfl (dg0 rfl) rfl rfl rfl rfl ?_
       refine d_s (.t (.d (.lit (.int .i64 (wi (z5 - 1)))))) rfl (dg0 rfl) rfl rfl rfl rfl ?_
       obtain ⟨x15, h16, h⟩ := bind_some h
       refine d_h (e := [(45, .ref (OB + 0) (0 + Int.toNat (wi (z5 - 1)) * 2))]) (ks := [45]) rfl (dg0 rfl) rfl rfl (fun S' hM hk hok => h_lix hM rfl rfl rfl rfl rfl (idxV rfl h16) rfl rfl (hok _ rfl rfl)) rfl ?_
       refine d_h (e := [(46, .t (.agg [.lit (.string ⟨⟨x15.Name⟩⟩), .lit (.int .i64 x15.Role)]))]) (ks := [46]) rfl (dg0 rfl) rfl rfl (fun S' hM hk hok => h_llr hM rfl rfl rfl rfl (flr_at (k := 2) h16 (fun _ => rfl)) rfl rfl rfl rfl rfl (hok _ rfl rfl)) rfl ?_
       refine d_s (.t (.view 0 0 35 2 z6.length)) rfl (dg0 rfl) rfl rfl rfl rfl ?_
       refine d_s (.t (.d (.lit (.int .i64 z5)))) rfl (dg0 rfl) rfl rfl rfl rfl ?_
       obtain ⟨x17, h18, h⟩ := bind_some h
       refine d_h (e := [(49, .ref (OB + 0) (0 + Int.toNat z5 * 2))]) (ks := [49]) rfl (dg0 rfl) rfl rfl (fun S' hM hk hok => h_lix hM rfl rfl rfl rfl rfl (idxV rfl h18) rfl rfl (hok _ rfl rfl)) rfl ?_
       refine d_h (e := [(50, .t (.agg [.lit (.string ⟨⟨x17.Name⟩⟩), .lit (.int .i64 x17.Role)]))]) (ks := [50]) rfl (dg0 rfl) rfl rfl (fun S' hM hk hok => h_llr hM rfl rfl rfl rfl (flr_at (k := 2) h18 (fun _ => rfl)) rfl rfl rfl rfl rfl (hok _ rfl rfl)) rfl ?_
       obtain ⟨x19, h20, h⟩ := bind_some h
       refine d_h (e := [(51, .ref (OB + 0) (0 + Int.toNat z5 * 2))]) (ks := [51]) rfl (dg0 rfl) rfl rfl (fun S' hM hk hok => h_lix hM rfl rfl rfl rfl rfl (idxV rfl h20) rfl rfl (hok _ rfl rfl)) rfl ?_
       refine d_h (e := [((OB + 0), .box (fl (dT cS_api_Member) (z6.set (Int.toNat z5) x15)))]) (ks := [(OB + 0)]) rfl (dg0 rfl) rfl rfl (fun S' hM hk hok => h_lst hM rfl rfl rfl rfl rfl rfl rfl (fl_room2 (c := cS_api_Member) (k := 2) (q := 0) h20 (fun _ => rfl) rfl) (fl_put2 (c := cS_api_Member) (k := 2) (q := 0) h20 x15 (fun _ => rfl) rfl rfl)) rfl ?_
       obtain ⟨x21, h22, h⟩ := bind_some h
       refine d_h (e := [(52, .ref (OB + 0) (0 + Int.toNat (wi (z5 - 1)) * 2))]) (ks := [52]) rfl (dg0 rfl) rfl rfl (fun S' hM hk hok => h_lix hM rfl rfl rfl rfl rfl (idxV (by first | rfl | (simp; done) | (dsimp only; omega) | (simp; omega)) h22) rfl rfl (hok _ rfl rfl)) rfl ?_
       refine d_h (e := [((OB + 0), .box (fl (dT cS_api_Member) ((z6.set (Int.toNat z5) x15).set (Int.toNat (wi (z5 - 1))) x17)))]) (ks := [(OB + 0)]) rfl (dg0 rfl) rfl rfl (fun S' hM hk hok => h_lst hM rfl rfl rfl rfl rfl rfl rfl (fl_room2 (c := cS_api_Member) (k := 2) (q := 0) h22 (fun _ => rfl) rfl) (fl_put2 (c := cS_api_Member) (k := 2) (q := 0) h22 x17 (fun _ => rfl) rfl rfl)) rfl ?_
       refine d_nil (by kernel_rfl) ?_
       repeat (first | refine k1 ?_ | refine k2 ?_ | refine k3 ?_ | refine k4 ?_ | refine k5 ?_ | refine k6 ?_ | refine k7 rfl ?_)
       refine c_region ?_
       refine o_s (.t (.d (.lit (.int .i64 z5)))) (g0 rfl) rfl rfl rfl ?_
       refine o_s (.t (.d (.lit (.int .i64 (wi (z5 - 1)))))) (g0 rfl) rfl rfl rfl ?_
       refine o_s (.t (.d (.lit (.int .i64 (wi (z5 - 1)))))) (g0 rfl) rfl rfl rfl ?_
       refine o_nil ?_
       repeat (first | refine k1 ?_ | refine k4 ?_)
       exact ⟨nl3, ((wi (z5 - 1)), ((z6.set (Int.toNat z5) x15).set (Int.toNat (wi (z5 - 1))) x17)), [], Nat.lt_succ_self nl3, h, rfl, ⟨.inr ⟨_, rfl, pure_hpA _⟩, by (repeat (first | exact ObP.nil | refine ObP.cons (.inl rfl) ?_ | refine ObP.cons (.inr (fun _ => rfl)) ?_ | refine ObP.cons (.inr (ob_box (fl_noPt _ _))) ?_ | refine ObP.cons (.inr (ob_gb _ _)) ?_))⟩, ⟨(.vwn (by first | rfl | (simp; done) | (dsimp only; omega) | (simp; omega))), ⟨(.refl _), ⟨(.refl _), ⟨(.refl _), ⟨(.refl _), ⟨(.refl _), ⟨(.refl _), ⟨(.refl _), trivial⟩⟩⟩⟩⟩⟩⟩⟩, rfl⟩
      ·
       refine c_f h14 rfl ?_
       refine c_exit ?_
       repeat (first | refine k1 ?_ | refine k2 ?_ | refine k3 ?_ | refine k4 ?_ | refine k5 ?_ | refine k6 ?_ | refine k7 rfl ?_)
       exact ⟨z6, [], h, rfl, ⟨.inr ⟨_, rfl, pure_hpA _⟩, by (repeat (first | exact ObP.nil | refine ObP.cons (.inl rfl) ?_ | refine ObP.cons (.inr (fun _ => rfl)) ?_ | refine ObP.cons (.inr (ob_box (fl_noPt _ _))) ?_ | refine ObP.cons (.inr (ob_gb _ _)) ?_))⟩, ⟨(.refl _), ⟨(.refl _), ⟨(.refl _), ⟨(.refl _), ⟨(.refl _), ⟨(.refl _), ⟨(.refl _), trivial⟩⟩⟩⟩⟩⟩⟩, rfl⟩
     ·
      refine d_skip rfl rfl rfl rfl rfl h7 rfl rfl rfl ?_
      refine d_skip rfl rfl rfl rfl rfl h7 rfl rfl rfl ?_
      refine d_skip rfl rfl rfl rfl rfl h7 rfl rfl rfl ?_
      refine d_skip rfl rfl rfl rfl rfl h7 rfl rfl rfl ?_
      refine d_skip rfl rfl rfl rfl rfl h7 rfl rfl rfl ?_
      refine d_skip rfl rfl rfl rfl rfl h7 rfl rfl rfl ?_
      refine d_skip rfl rfl rfl rfl rfl h7 rfl rfl rfl ?_
      refine d_skip rfl rfl rfl rfl rfl h7 rfl rfl rfl ?_
      refine d_skip rfl rfl rfl rfl rfl h7 rfl rfl rfl ?_
      refine d_skip rfl rfl rfl rfl rfl h7 rfl rfl rfl ?_
      refine d_skip rfl rfl rfl rfl rfl h7 rfl rfl rfl ?_
      refine d_skip rfl rfl rfl rfl rfl h7 rfl rfl rfl ?_
      refine d_pk (.t (.d (.lit (.bool false)))) (b := false) h7 rfl (dg0 rfl) rfl rfl rfl rfl rfl rfl ?_
      refine d_nil (by kernel_rfl) ?_
      repeat (first | refine k1 ?_ | refine k2 ?_ | refine k3 ?_ | refine k4 ?_ | refine k5 ?_ | refine k6 ?_ | refine k7 rfl ?_)
      refine c_f rfl rfl ?_
      refine c_exit ?_
      repeat (first | refine k1 ?_ | refine k2 ?_ | refine k3 ?_ | refine k4 ?_ | refine k5 ?_ | refine k6 ?_ | refine k7 rfl ?_)
      exact ⟨z6, [], h, rfl, ⟨.inr ⟨_, rfl, pure_hpA _⟩, by (repeat (first | exact ObP.nil | refine ObP.cons (.inl rfl) ?_ | refine ObP.cons (.inr (fun _ => rfl)) ?_ | refine ObP.cons (.inr (ob_box (fl_noPt _ _))) ?_ | refine ObP.cons (.inr (ob_gb _ _)) ?_))⟩, ⟨(.refl _), ⟨(.refl _), ⟨(.refl _), ⟨(.refl _), ⟨(.refl _), ⟨(.refl _), ⟨(.refl _), trivial⟩⟩⟩⟩⟩⟩⟩, rfl⟩
   ·
    rintro y4 h
    refine c_region ?_
    refine o_s (.t (.d (.lit (.int .i64 z1)))) (g0 rfl) rfl rfl rfl ?_
    refine o_s (.t (.d (.lit (.int .i64 (wi (z1 + 1)))))) (g0 rfl) rfl rfl rfl ?_
    refine o_s (.t (.d (.lit (.int .i64 (wi (z1 + 1)))))) (g0 rfl) rfl rfl rfl ?_
    refine o_nil ?_
    repeat (first | refine k1 ?_ | refine k4 ?_)
    exact ⟨nl1, ((wi (z1 + 1)), y4), [], Nat.lt_succ_self nl1, h, rfl, ⟨.inr ⟨_, rfl, pure_hpA _⟩, by (repeat (first | exact ObP.nil | refine ObP.cons (.inl rfl) ?_ | refine ObP.cons (.inr (fun _ => rfl)) ?_ | refine ObP.cons (.inr (ob_box (fl_noPt _ _))) ?_ | refine ObP.cons (.inr (ob_gb _ _)) ?_))⟩, ⟨(.refl _), ⟨(.refl _), ⟨(.refl _), ⟨(.refl _), ⟨(.refl _), ⟨(.refl _), ⟨(.refl _), trivial⟩⟩⟩⟩⟩⟩⟩, rfl⟩
  ·
   refine c_f h3 rfl ?_
   refine c_exit ?_
   repeat (first | refine k1 ?_ | refine k2 ?_ | refine k3 ?_ | refine k4 ?_ | refine k5 ?_ | refine k6 ?_ | refine k7 rfl ?_)
   obtain rfl := Option.some.inj h
   exact ⟨⟨_, rfl, (.refl _)⟩, ⟨rfl, trivial⟩, rfl⟩

theorem fch_slices_pdqsortCmpFunc_Member_v0 (p0 : (List S_api_Member)) (p1 : Int) (p2 : Int) (p3 : Int) (F4 : Nat) (C4 : List (List D)) (p4 : (S_api_Member → S_api_Member → Option Int)) (hp4 : ∀ (a0 : S_api_Member) (a1 : S_api_Member) r, p4 a0 a1 = some r → FC Try.prog F4 ([.t (.agg [.lit (.string ⟨⟨a0.Name⟩⟩), .lit (.int .i64 a0.Role)]), .t (.agg [.lit (.string ⟨⟨a1.Name⟩⟩), .lit (.int .i64 a1.Role)])] ++ C4.map A.imm) [] (.t (.d (.lit (.int .i64 r))))) (hf4 : ∃ fn, Try.prog.funcs[F4]? = some fn ∧ fn.body.isNone = false ∧ (fn.name == "runtime.NumGoroutine") = false) (w0 : Hp) (r : (List S_api_Member)) (h : m_slices_pdqsortCmpFunc_Member_v0 p0 p1 p2 p3 p4 = some r) : FCH Try.prog 66 [.t (.view 0 0 35 2 p0.length), .t (.d (.lit (.int .i64 p1))), .t (.d (.lit (.int .i64 p2))), .t (.d (.lit (.int .i64 p3))), .t (.d (.clo F4 C4))] [.box (fl (dT cS_api_Member) p0)] [.box (fl (dT cS_api_Member) r)] (hpA w0) (hpA w0) (.tup []) := by
 refine fch_mk (rs := []) (n := 148) [] Try.func66 rfl rfl (Nat.le_of_ble_eq_true rfl) rfl (pins := [OB + 0]) rfl (L := [(HK, .hp (hpA w0)), (OB + 0, .box (fl (dT cS_api_Member) p0)), (0, .t (.view 0 0 35 2 p0.length)), (1, .t (.d (.lit (.int .i64 p1)))), (2, .t (.d (.lit (.int .i64 p2)))), (3, .t (.d (.lit (.int .i64 p3)))), (4, .t (.d (.clo F4 C4)))]) rfl ?_
 refine c_sr ?_
 refine o_s (.t (.d (.lit (.bool true)))) (g0 rfl) rfl rfl rfl ?_
 refine o_nil ?_
 repeat (first | refine k1 ?_ | refine k4 ?_)
 refine c_sr ?_
 refine o_s (.t (.d (.lit (.bool true)))) (g0 rfl) rfl rfl rfl ?_
 refine o_nil ?_
 repeat (first | refine k1 ?_ | refine k4 ?_)
 refine c_block ?_
 refine c_fuelH (fun (q : Int × Int × Int × Bool × Bool) => [(0, .t (.view 0 0 35 2 p0.length)), (1, .t (.d (.lit (.int .i64 q.1)))), (2, .t (.d (.lit (.int .i64 q.2.1)))), (3, .t (.d (.lit (.int .i64 q.2.2.1)))), (4, .t (.d (.clo F4 C4))), (10, .t (.d (.lit (.bool q.2.2.2.1)))), (11, .t (.d (.lit (.bool q.2.2.2.2)))), ((OB + 0), .box (fl (dT cS_api_Member) p0)), (HK, .hp (hpA w0))]) (fun nl1 => (fun (q : Int × Int × Int × Bool × Bool) => m_slices_pdqsortCmpFunc_Member_v0_l1 p0 p4 nl1 q.1 q.2.1 q.2.2.1 q.2.2.2.1 q.2.2.2.2 = some r)) (2) (p1, p2, p3, true, true) [] h rfl ⟨.inr ⟨_, rfl, pure_hpA _⟩, by (repeat (first | exact ObP.nil | refine ObP.cons (.inl rfl) ?_ | refine ObP.cons (.inr (fun _ => rfl)) ?_ | refine ObP.cons (.inr (ob_box (fl_noPt _ _))) ?_ | refine ObP.cons (.inr (ob_gb _ _)) ?_))⟩ ⟨(.refl _), ⟨(.refl _), ⟨(.refl _), ⟨(.refl _), ⟨(.refl _), ⟨(.refl _), ⟨(.refl _), ⟨(.refl _), ⟨(.refl _), trivial⟩⟩⟩⟩⟩⟩⟩⟩⟩ rfl ?_
 rintro nl1 ⟨z1, z2, z3, z4, z5⟩ h
 cases nl1 with
 | zero => exact none_ne h
 | succ nl1 =>
  refine c_block ?_
  refine c_sr ?_
  refine o_s (.t (.d (.lit (.int .i64 z2)))) (g0 rfl) rfl rfl rfl ?_
  refine o_s (.t (.d (.lit (.int .i64 z1)))) (g0 rfl) rfl rfl rfl ?_
  refine o_s (.t (.d (.lit (.int .i64 (wi (z2 - z1)))))) (g0 rfl) rfl rfl rfl ?_
  refine o_s (.t (.d (.lit (.int .i64 (wi (z2 - z1)))))) (g0 rfl) rfl rfl rfl ?_
  refine o_nil ?_
  repeat (first | refine k1 ?_ | refine k4 ?_)
  refine c_seq ?_
  refine c_sr ?_
  refine o_s (.t (.d (.lit (.int .i64 (wi (z2 - z1)))))) (g0 rfl) rfl rfl rfl ?_
  refine o_s (.t (.d (.lit (.bool (decide ((wi (z2 - z1)) ≤ 12)))))) (g0 rfl) rfl rfl rfl ?_
  refine o_nil ?_
  repeat (first | refine k1 ?_ | refine k4 ?_)
  rcases bif_some h with ⟨h6, h⟩ | ⟨h6, h⟩
  ·
   refine c_t h6 rfl ?_
   refine c_sr ?_
   refine o_s (.t (.view 0 0 35 2 p0.length)) (g0 rfl) rfl rfl rfl ?_
   refine o_s (.t (.d (.lit (.int .i64 z1)))) (g0 rfl) rfl rfl rfl ?_
   refine o_s (.t (.d (.lit (.int .i64 z2)))) (g0 rfl) rfl rfl rfl ?_
   refine o_s (.t (.d (.clo F4 C4))) (g0 rfl) rfl rfl rfl ?_
   obtain ⟨x7, h8, h⟩ := bind_some h
   refine o_of (e := [((OB + 0), .box (fl (dT cS_api_Member) x7)), (HK, .hp (hpA w0)), (30, .tup [])]) (g0 rfl) (h_call (Mk.refl _) rfl (σ := [0]) (fr := []) rfl rfl rfl rfl rfl rfl rfl (fch_slices_insertionSortCmpFunc_Member_v0 _ _ _ F4 C4 _ hp4 hf4 w0 _ h8) (pure_hpA _) (pure_hpA _) rfl (by simp [A.flatO, fl_noPt]) (by simp [A.flatO, fl_noPt]) rfl (.cons (argVw rfl rfl rfl) (.cons (.plain (.refl _) rfl) (.cons (.plain (.refl _) rfl) (.cons (.plain (.refl _) rfl) .nil)))) rfl (.tup .nil)) rfl ?_
   obtain ⟨x9, h10, h⟩ := bind_some h
   have h10 : x7.length = p0.length := lenI_eq h10
   refine o_nil ?_
   repeat (first | refine k1 ?_ | refine k4 ?_)
   refine c_ret ?_
   repeat (first | refine k3 ?_ | refine k5 ?_)
   obtain rfl := Option.some.inj h
   exact ⟨⟨_, rfl, (.refl _)⟩, ⟨rfl, trivial⟩, rfl⟩
  ·
   refine c_f h6 rfl ?_
   refine c_skip ?_
   repeat (first | refine k1 ?_ | refine k4 ?_)
   refine c_seq ?_
   refine c_sr ?_
   refine o_s (.t (.d (.lit (.int .i64 z3)))) (g0 rfl) rfl rfl rfl ?_
   refine o_s (.t (.d (.lit (.bool (z3 == 0))))) (g0 rfl) rfl rfl rfl ?_
   refine o_nil ?_
   repeat (first | refine k1 ?_ | refine k4 ?_)
   rcases bif_some h with ⟨h11, h⟩ | ⟨h11, h⟩
   ·
    refine c_t h11 rfl ?_
    refine c_sr ?_
    refine o_s (.t (.view 0 0 35 2 p0.length)) (g0 rfl) rfl rfl rfl ?_
    refine o_s (.t (.d (.lit (.int .i64 z1)))) (g0 rfl) rfl rfl rfl ?_
    refine o_s (.t (.d (.lit (.int .i64 z2)))) (g0 rfl) rfl rfl rfl ?_
    refine o_s (.t (.d (.clo F4 C4))) (g0 rfl) rfl rfl rfl ?_
    exact none_ne h
   ·
    refine c_f h11 rfl ?_
    refine c_skip ?_
    repeat (first | refine k1 ?_ | refine k4 ?_)
    refine c_seq ?_
    refine c_sr ?_
    refine o_s (.t (.d (.lit (.bool z4)))) (g0 rfl) rfl rfl rfl ?_
    refine o_s (.t (.d (.lit (.bool (!z4))))) (g0 rfl) rfl rfl rfl ?_
    refine o_nil ?_
    repeat (first | refine k1 ?_ | refine k4 ?_)
    rcases bif_some h with ⟨h12, h⟩ | ⟨h12, h⟩
    ·
     refine c_t h12 rfl ?_
     refine c_sr ?_
     refine o_s (.t (.view 0 0 35 2 p0.length)) (g0 rfl) rfl rfl rfl ?_
     refine o_s (.t (.d (.lit (.int .i64 z1)))) (g0 rfl) rfl rfl rfl ?_
     refine o_s (.t (.d (.lit (.int .i64 z2)))) (g0 rfl) rfl rfl rfl ?_
     refine o_s (.t (.d (.clo F4 C4))) (g0 rfl) rfl rfl rfl ?_
     exact none_ne h
    ·
     refine c_f h12 rfl ?_
     refine c_skip ?_
     repeat (first | refine k1 ?_ | refine k4 ?_)
     refine c_sr ?_
     refine o_s (.t (.view 0 0 35 2 p0.length)) (g0 rfl) rfl rfl rfl ?_
     refine o_s (.t (.d (.lit (.int .i64 z1)))) (g0 rfl) rfl rfl rfl ?_
     refine o_s (.t (.d (.lit (.int .i64 z2)))) (g0 rfl) rfl rfl rfl ?_
     refine o_s (.t (.d (.clo F4 C4))) (g0 rfl) rfl rfl rfl ?_
     exact none_ne h

theorem fch_slices_SortFunc_Member_v0 (p0 : (List S_api_Member)) (F1 : Nat) (C1 : List (List D)) (p1 : (S_api_Member → S_api_Member → Option Int)) (hp1 : ∀ (a0 : S_api_Member) (a1 : S_api_Member) r, p1 a0 a1 = some r → FC Try.prog F1 ([.t (.agg [.lit (.string ⟨⟨a0.Name⟩⟩), .lit (.int .i64 a0.Role)]), .t (.agg [.lit (.string ⟨⟨a1.Name⟩⟩), .lit (.int .i64 a1.Role)])] ++ C1.map A.imm) [] (.t (.d (.lit (.int .i64 r))))) (hf1 : ∃ fn, Try.prog.funcs[F1]? = some fn ∧ fn.body.isNone = false ∧ (fn.name == "runtime.NumGoroutine") = false) (w0 : Hp) (r : (List S_api_Member)) (h : m_slices_SortFunc_Member_v0 p0 p1 = some r) : FCH Try.prog 55 [.t (.view 0 0 35 2 p0.length), .t (.d (.clo F1 C1))] [.box (fl (dT cS_api_Member) p0)] [.box (fl (dT cS_api_Member) r)] (hpA w0) (hpA w0) (.tup []) := by
 refine fch_mk (rs := []) (n := 14) [] Try.func55 rfl rfl (Nat.le_of_ble_eq_true rfl) rfl (pins := [OB + 0]) rfl (L := [(HK, .hp (hpA w0)), (OB + 0, .box (fl (dT cS_api_Member) p0)), (0, .t (.view 0 0 35 2 p0.length)), (1, .t (.d (.clo F1 C1)))]) rfl ?_
 refine c_sr ?_
 refine o_s (.t (.view 0 0 35 2 p0.length)) (g0 rfl) rfl rfl rfl ?_
 refine o_of (e := [(6, .t (.d (.lit (.int .i64 (p0.length : Int)))))]) (g0 rfl) (h_lln (Mk.refl _) rfl rfl rfl rfl rfl rfl) rfl ?_
 refine o_s (.t (.d (.lit (.int .i64 (p0.length : Int))))) (g0 rfl) rfl rfl rfl ?_
 refine o_nil ?_
 repeat (first | refine k1 ?_ | refine k4 ?_)
 refine c_region ?_
 refine o_s (.t (.view 0 0 35 2 p0.length)) (g0 rfl) rfl rfl rfl ?_
 refine o_s (.t (.d (.lit (.int .i64 (p0.length : Int))))) (g0 rfl) rfl rfl rfl ?_
 refine o_s (.t (.d (.lit (.int .i64 (p0.length : Int))))) (g0 rfl) rfl rfl rfl ?_
 refine o_s (.t (.d (.lit (.int .u64 (IntKind.u64.wrap (p0.length : Int)))))) (g0 rfl) rfl rfl rfl ?_
 obtain ⟨x1, h2, h⟩ := bind_some h
 refine o_ca (fc_math_bits_Len _ _ h2) (g0 rfl) rfl rfl rfl rfl rfl rfl rfl (.cons (.refl _) .nil) rfl rfl ?_
 refine o_s (.t (.d (.clo F1 C1))) (g0 rfl) rfl rfl rfl ?_
 obtain ⟨x3, h4, h⟩ := bind_some h
 refine o_of (e := [((OB + 0), .box (fl (dT cS_api_Member) x3)), (HK, .hp (hpA w0)), (13, .tup [])]) (g0 rfl) (h_call (Mk.refl _) rfl (σ := [0]) (fr := []) rfl rfl rfl rfl rfl rfl rfl (fch_slices_pdqsortCmpFunc_Member_v0 _ _ _ _ F1 C1 _ hp1 hf1 w0 _ h4) (pure_hpA _) (pure_hpA _) rfl (by simp [A.flatO, fl_noPt]) (by simp [A.flatO, fl_noPt]) rfl (.cons (argVw rfl rfl rfl) (.cons (.plain (.refl _) rfl) (.cons (.plain (.refl _) rfl) (.cons (.plain (.refl _) rfl) (.cons (.plain (.refl _) rfl) .nil))))) rfl (.tup .nil)) rfl ?_
 obtain ⟨x5, h6, h⟩ := bind_some h
 have h6 : x3.length = p0.length := lenI_eq h6
 refine o_nil ?_
 repeat (first | refine k1 ?_ | refine k4 ?_)
 obtain rfl := Option.some.inj h
 exact ⟨⟨_, rfl, (.refl _)⟩, ⟨rfl, trivial⟩, rfl⟩

theorem fch_role_Share (p0 : (List S_api_Member)) (p1 : (List UInt8)) (p2 : (List UInt8)) (p3 : Int) (w0 : Hp) (r : ((List S_api_Member) × Int)) (h : m_role_Share p0 p1 p2 p3 = some r) : FCH Try.prog 38 [.t (.d (.seq 2 (List.map cS_api_Member p0))), .t (.d (.lit (.string ⟨⟨p1⟩⟩))), .t (.d (.lit (.string ⟨⟨p2⟩⟩))), .t (.d (.lit (.int .i64 p3)))] [] [] (hpA w0) (hpA w0) (.tup [.d (.seq 2 (List.map cS_api_Member r.1)), .d (.lit (.int .i64 r.2))]) := by
 refine fch_mk (rs := [.tmp 8, .tmp 9]) (n := 55) [0] Try.func38 rfl rfl (Nat.le_of_ble_eq_true rfl) rfl (pins := []) rfl (L := [(HK, .hp (hpA w0)), (OB + 0, .free), (0, .t (.d (.seq 2 (List.map cS_api_Member p0)))), (1, .t (.d (.lit (.string ⟨⟨p1⟩⟩)))), (2, .t (.d (.lit (.string ⟨⟨p2⟩⟩)))), (3, .t (.d (.lit (.int .i64 p3))))]) rfl ?_
 refine c_sr ?_
 refine o_s (.t (.d (.lit (.slice none 0 0)))) (g0 rfl) rfl rfl rfl ?_
 refine o_s (.t (.d (.lit (.int .i64 0)))) (g0 rfl) rfl rfl rfl ?_
 refine o_nil ?_
 repeat (first | refine k1 ?_ | refine k4 ?_)
 refine c_seq ?_
 refine c_block ?_
 refine c_cutH (fun (y1 : Bool) => [(0, .t (.d (.seq 2 (List.map cS_api_Member p0)))), (1, .t (.d (.lit (.string ⟨⟨p1⟩⟩)))), (2, .t (.d (.lit (.string ⟨⟨p2⟩⟩)))), (3, .t (.d (.lit (.int .i64 p3)))), (11, .t (.d (.lit (.bool y1)))), (HK, .hp (hpA w0)), (OB + 0, .free)]) (fun (y1 : Bool) => m_role_Share_j1 p0 p1 p2 p3 y1 = some r) ?_ ?_
 ·
  refine c_region ?_
  refine o_s (.t (.d (.seq 2 (List.map cS_api_Member p0)))) (g0 rfl) rfl rfl rfl ?_
  obtain ⟨x23, h24, h⟩ := bind_some h
  refine o_ca (fc_role_Right _ _ h24) (g0 rfl) rfl rfl rfl rfl rfl rfl rfl (.cons (.refl _) .nil) rfl rfl ?_
  refine o_s (.t (.d (.lit (.bool (!x23))))) (g0 rfl) rfl rfl rfl ?_
  refine o_s (.t (.d (.lit (.bool (!x23))))) (g0 rfl) rfl rfl rfl ?_
  rcases bif_some h with ⟨h25, h⟩ | ⟨h25, h⟩
  ·
   refine o_skip rfl rfl rfl h25 rfl rfl ?_
   refine o_skip rfl rfl rfl h25 rfl rfl ?_
   refine o_skip rfl rfl rfl h25 rfl rfl ?_
   refine o_pk (.t (.d (.lit (.bool true)))) (b := true) h25 (g0 rfl) rfl rfl rfl rfl rfl ?_
   refine o_s (.t (.d (.lit (.bool true)))) (g0 rfl) rfl rfl rfl ?_
   refine o_skip rfl rfl rfl rfl rfl rfl ?_
   refine o_skip rfl rfl rfl rfl rfl rfl ?_
   refine o_skip rfl rfl rfl rfl rfl rfl ?_
   refine o_pk (.t (.d (.lit (.bool true)))) (b := true) rfl (g0 rfl) rfl rfl rfl rfl rfl ?_
   refine o_s (.t (.d (.lit (.bool true)))) (g0 rfl) rfl rfl rfl ?_
   refine o_nil ?_
   repeat (first | refine k1 ?_ | refine k4 ?_)
   exact ⟨true, [], h, rfl, ⟨.inr ⟨_, rfl, pure_hpA _⟩, by (repeat (first | exact ObP.nil | refine ObP.cons (.inl rfl) ?_ | refine ObP.cons (.inr (fun _ => rfl)) ?_ | refine ObP.cons (.inr (ob_box (fl_noPt _ _))) ?_ | refine ObP.cons (.inr (ob_gb _ _)) ?_))⟩, ⟨(.refl _), ⟨(.refl _), ⟨(.refl _), ⟨(.refl _), ⟨(.refl _), ⟨(.refl _), ⟨(.refl _), trivial⟩⟩⟩⟩⟩⟩⟩, rfl⟩
  ·
   refine o_s (.t (.d (.lit (.string ⟨⟨p2⟩⟩)))) (gy rfl rfl rfl h25) rfl rfl rfl ?_
   obtain ⟨x26, h27, h⟩ := bind_some h
   refine o_ca (fc_tree_Name _ _ h27) (gy rfl rfl rfl h25) rfl rfl rfl rfl rfl rfl rfl (.cons (.refl _) .nil) rfl rfl ?_
   refine o_s (.t (.d (.lit (.bool (!x26))))) (gy rfl rfl rfl h25) rfl rfl rfl ?_
   refine o_pk (.t (.d (.lit (.bool (!x26))))) (b := false) h25 (g0 rfl) rfl rfl rfl rfl rfl ?_
   refine o_s (.t (.d (.lit (.bool (!x26))))) (g0 rfl) rfl rfl rfl ?_
   rcases bif_some h with ⟨h28, h⟩ | ⟨h28, h⟩
   ·
    refine o_skip rfl rfl rfl h28 rfl rfl ?_
    refine o_skip rfl rfl rfl h28 rfl rfl ?_
    refine o_skip rfl rfl rfl h28 rfl rfl ?_
    refine o_pk (.t (.d (.lit (.bool true)))) (b := true) h28 (g0 rfl) rfl rfl rfl rfl rfl ?_
    refine o_s (.t (.d (.lit (.bool true)))) (g0 rfl) rfl rfl rfl ?_
    refine o_nil ?_
    repeat (first | refine k1 ?_ | refine k4 ?_)
    exact ⟨true, [], h, rfl, ⟨.inr ⟨_, rfl, pure_hpA _⟩, by (repeat (first | exact ObP.nil | refine ObP.cons (.inl rfl) ?_ | refine ObP.cons (.inr (fun _ => rfl)) ?_ | refine ObP.cons (.inr (ob_box (fl_noPt _ _))) ?_ | refine ObP.cons (.inr (ob_gb _ _)) ?_))⟩, ⟨(.refl _), ⟨(.refl _), ⟨(.refl _), ⟨(.refl _), ⟨(.refl _), ⟨(.refl _), ⟨(.refl _), trivial⟩⟩⟩⟩⟩⟩⟩, rfl⟩
   ·
    refine o_s (.t (.d (.lit (.int .i64 p3)))) (gy rfl rfl rfl h28) rfl rfl rfl ?_
    obtain ⟨x29, h30, h⟩ := bind_some h
    refine o_ca (fc_role_is _ _ h30) (gy rfl rfl rfl h28) rfl rfl rfl rfl rfl rfl rfl (.cons (.refl _) .nil) rfl rfl ?_
    refine o_s (.t (.d (.lit (.bool (!x29))))) (gy rfl rfl rfl h28) rfl rfl rfl ?_
    refine o_pk (.t (.d (.lit (.bool (!x29))))) (b := false) h28 (g0 rfl) rfl rfl rfl rfl rfl ?_
    refine o_s (.t (.d (.lit (.bool (!x29))))) (g0 rfl) rfl rfl rfl ?_
    refine o_nil ?_
    repeat (first | refine k1 ?_ | refine k4 ?_)
    exact ⟨(!x29), [], h, rfl, ⟨.inr ⟨_, rfl, pure_hpA _⟩, by (repeat (first | exact ObP.nil | refine ObP.cons (.inl rfl) ?_ | refine ObP.cons (.inr (fun _ => rfl)) ?_ | refine ObP.cons (.inr (ob_box (fl_noPt _ _))) ?_ | refine ObP.cons (.inr (ob_gb _ _)) ?_))⟩, ⟨(.refl _), ⟨(.refl _), ⟨(.refl _), ⟨(.refl _), ⟨(.refl _), ⟨(.refl _), ⟨(.refl _), trivial⟩⟩⟩⟩⟩⟩⟩, rfl⟩
 ·
  rintro y1 h
  rcases bif_some h with ⟨h2, h⟩ | ⟨h2, h⟩
  ·
   refine c_t h2 rfl ?_
   refine c_sr ?_
   refine o_s (.t (.d (.lit (.slice none 0 0)))) (g0 rfl) rfl rfl rfl ?_
   refine o_s (.t (.d (.lit (.int .i64 2)))) (g0 rfl) rfl rfl rfl ?_
   refine o_nil ?_
   repeat (first | refine k1 ?_ | refine k4 ?_)
   refine c_ret ?_
   repeat (first | refine k3 ?_ | refine k5 ?_)
   obtain rfl := Option.some.inj h
   exact ⟨⟨_, rfl, (.tup (.cons (.d (.nil _)) (.cons (.refl _) .nil)))⟩, trivial, rfl⟩
  ·
   refine c_f h2 rfl ?_
   refine c_sr ?_
   refine o_s (.t (.d (.seq 2 (List.map cS_api_Member p0)))) (g0 rfl) rfl rfl rfl ?_
   refine o_s (.t (.d (.lit (.string ⟨⟨p1⟩⟩)))) (g0 rfl) rfl rfl rfl ?_
   obtain ⟨x3, h4, h⟩ := bind_some h
   refine o_ca (fc_role_Of _ _ _ h4) (g0 rfl) rfl rfl rfl rfl rfl rfl rfl (.cons (.refl _) (.cons (.refl _) .nil)) rfl rfl ?_
   refine o_s (.t (.d (.lit (.bool (decide (x3 < 3)))))) (g0 rfl) rfl rfl rfl ?_
   refine o_s (.t (.d (.lit (.bool (decide (x3 < 3)))))) (g0 rfl) rfl rfl rfl ?_
   refine o_nil ?_
   repeat (first | refine k1 ?_ | refine k4 ?_)
   rcases bif_some h with ⟨h5, h⟩ | ⟨h5, h⟩
   ·
    refine c_t h5 rfl ?_
    refine c_sr ?_
    refine o_s (.t (.d (.lit (.slice none 0 0)))) (g0 rfl) rfl rfl rfl ?_
    refine o_s (.t (.d (.lit (.int .i64 40)))) (g0 rfl) rfl rfl rfl ?_
    refine o_nil ?_
    repeat (first | refine k1 ?_ | refine k4 ?_)
    refine c_ret ?_
    repeat (first | refine k3 ?_ | refine k5 ?_)
    obtain rfl := Option.some.inj h
    exact ⟨⟨_, rfl, (.tup (.cons (.d (.nil _)) (.cons (.refl _) .nil)))⟩, trivial, rfl⟩
   ·
    refine c_f h5 rfl ?_
    refine c_sr ?_
    refine o_s (.t (.d (.seq 2 (List.map cS_api_Member p0)))) (g0 rfl) rfl rfl rfl ?_
    refine o_s (.t (.d (.lit (.string ⟨⟨p2⟩⟩)))) (g0 rfl) rfl rfl rfl ?_
    obtain ⟨x6, h7, h⟩ := bind_some h
    refine o_ca (fc_role_at _ _ _ h7) (g0 rfl) rfl rfl rfl rfl rfl rfl rfl (.cons (.refl _) (.cons (.refl _) .nil)) rfl rfl ?_
    refine o_s (.t (.d (.lit (.bool (decide (x6 ≥ 0)))))) (g0 rfl) rfl rfl rfl ?_
    refine o_s (.t (.d (.lit (.bool (decide (x6 ≥ 0)))))) (g0 rfl) rfl rfl rfl ?_
    refine o_nil ?_
    repeat (first | refine k1 ?_ | refine k4 ?_)
    rcases bif_some h with ⟨h8, h⟩ | ⟨h8, h⟩
    ·
     refine c_t h8 rfl ?_
     refine c_sr ?_
     refine o_s (.t (.d (.lit (.slice none 0 0)))) (g0 rfl) rfl rfl rfl ?_
     refine o_s (.t (.d (.lit (.int .i64 42)))) (g0 rfl) rfl rfl rfl ?_
     refine o_nil ?_
     repeat (first | refine k1 ?_ | refine k4 ?_)
     refine c_ret ?_
     repeat (first | refine k3 ?_ | refine k5 ?_)
     obtain rfl := Option.some.inj h
     exact ⟨⟨_, rfl, (.tup (.cons (.d (.nil _)) (.cons (.refl _) .nil)))⟩, trivial, rfl⟩
    ·
     refine c_f h8 rfl ?_
     refine c_sr ?_
     refine o_s (.t (.d (.seq 2 (List.map cS_api_Member p0)))) (g0 rfl) rfl rfl rfl ?_
     refine o_s (.t (.d (.lit (.string ⟨⟨p1⟩⟩)))) (g0 rfl) rfl rfl rfl ?_
     refine o_s (.t (.d (.lit (.int .i64 p3)))) (g0 rfl) rfl rfl rfl ?_
     refine o_s (.t (.own 3 1 (List.map cI64 [p3]))) (g0 rfl) rfl rfl rfl ?_
     obtain ⟨x9, h10, h⟩ := bind_some h
     refine o_ca (fc_role_high _ _ _ _ h10) (g0 rfl) rfl rfl rfl rfl rfl rfl rfl (.cons (.refl _) (.cons (.refl _) (.cons (.refl _) .nil))) rfl rfl ?_
     refine o_s (.t (.d (.lit (.bool x9)))) (g0 rfl) rfl rfl rfl ?_
     refine o_nil ?_
     repeat (first | refine k1 ?_ | refine k4 ?_)
     rcases bif_some h with ⟨h11, h⟩ | ⟨h11, h⟩
     ·
      refine c_t h11 rfl ?_
      refine c_sr ?_
      refine o_s (.t (.d (.lit (.slice none 0 0)))) (g0 rfl) rfl rfl rfl ?_
      refine o_s (.t (.d (.lit (.int .i64 40)))) (g0 rfl) rfl rfl rfl ?_
      refine o_nil ?_
      repeat (first | refine k1 ?_ | refine k4 ?_)
      refine c_ret ?_
      repeat (first | refine k3 ?_ | refine k5 ?_)
      obtain rfl := Option.some.inj h
      exact ⟨⟨_, rfl, (.tup (.cons (.d (.nil _)) (.cons (.refl _) .nil)))⟩, trivial, rfl⟩
     ·
      refine c_f h11 rfl ?_
      refine c_sr ?_
      refine o_s (.t (.d (.seq 2 (List.map cS_api_Member p0)))) (g0 rfl) rfl rfl rfl ?_
      refine o_c (g0 rfl) rfl rfl rfl (lenE _ _) trivial ?_
      refine o_s (.t (.d (.lit (.bool (decide ((p0.length : Int) ≥ 8)))))) (g0 rfl) rfl rfl rfl ?_
      refine o_s (.t (.d (.lit (.bool (decide ((p0.length : Int) ≥ 8)))))) (g0 rfl) rfl rfl rfl ?_
      refine o_nil ?_
      repeat (first | refine k1 ?_ | refine k4 ?_)
      rcases bif_some h with ⟨h12, h⟩ | ⟨h12, h⟩
      ·
       refine c_t h12 rfl ?_
       refine c_sr ?_
       refine o_s (.t (.d (.lit (.slice none 0 0)))) (g0 rfl) rfl rfl rfl ?_
       refine o_s (.t (.d (.lit (.int .i64 3)))) (g0 rfl) rfl rfl rfl ?_
       refine o_nil ?_
       repeat (first | refine k1 ?_ | refine k4 ?_)
       refine c_ret ?_
       repeat (first | refine k3 ?_ | refine k5 ?_)
       obtain rfl := Option.some.inj h
       exact ⟨⟨_, rfl, (.tup (.cons (.d (.nil _)) (.cons (.refl _) .nil)))⟩, trivial, rfl⟩
      ·
       refine c_f h12 rfl ?_
       refine c_skip ?_
       repeat (first | refine k1 ?_ | refine k4 ?_)
       refine c_sr ?_
       refine o_s (.t (.d (.seq 2 (List.map cS_api_Member p0)))) (g0 rfl) rfl rfl rfl ?_
       obtain ⟨x13, h14, h⟩ := bind_some h
       rcases bif_some h with ⟨h15, h⟩ | ⟨h15, h⟩
       ·
        exact none_ne h
       ·
        refine o_of (e := [((OB + 0), gbA cS_api_Member x13), (46, .t (.view 0 0 35 2 x13.length))]) (g0 rfl) (h_callobj (c := cS_api_Member) (Mk.refl _) rfl rfl rfl rfl rfl rfl rfl (fc_slices_Clone_Member _ _ h14) (.cons (.refl _) .nil) rfl rfl rfl (by rw [h15]; rfl) rfl (fun _ => rfl)) rfl ?_
        refine o_s (.t (.d (.lit (.string ⟨⟨p2⟩⟩)))) (g0 rfl) rfl rfl rfl ?_
        refine o_s (.t (.d (.lit (.int .i64 p3)))) (g0 rfl) rfl rfl rfl ?_
        refine o_s (.t (.agg [.lit (.string ⟨⟨p2⟩⟩), .lit (.int .i64 p3)])) (g0 rfl) rfl rfl rfl ?_
        refine o_s (.t (.own 35 2 (List.map cS_api_Member [(S_api_Member.mk p2 p3)]))) (g0 rfl) rfl rfl rfl ?_
        obtain ⟨x16, h17, h⟩ := bind_some h
        refine o_of (e := [(46, .any), ((OB + 0), gbA cS_api_Member x16), (51, .t (.view 0 0 35 2 x16.length))]) (g0 rfl) (h_apgI (c := cS_api_Member) (Mk.refl _) [46] h17 rfl rfl rfl rfl (fun _ => rfl) rfl (by simp) rfl rfl rfl (NoM.get (by (repeat (first | exact NoM.nil | refine NoM.skip rfl ?_ | refine NoM.cons rfl ?_ | refine NoM.cons (ptT_ment _ _ _) ?_ | refine NoM.cons (ob_box (fl_noPt _ _) _) ?_ | refine NoM.cons (ob_gb _ _ _) ?_)))) (.inr ⟨_, rfl, pure_hpA _⟩) rfl) rfl ?_
        refine o_s (.t (.view 0 0 35 2 x16.length)) (g0 rfl) rfl rfl rfl ?_
        refine o_nil ?_
        repeat (first | refine k1 ?_ | refine k4 ?_)
        refine c_sr ?_
        refine o_s (.t (.view 0 0 35 2 x16.length)) (g0 rfl) rfl rfl rfl ?_
        rcases bif_some h with ⟨h18, h⟩ | ⟨h18, h⟩
        ·
         exact none_ne h
        ·
         obtain ⟨x19, h20, h⟩ := bind_some h
         refine o_of (e := [((OB + 0), .box (fl (dT cS_api_Member) x19)), (HK, .hp (hpA w0)), (53, .tup [])]) (g0 rfl) (h_call (Mk.refl _) rfl (σ := [0]) (fr := []) rfl rfl rfl rfl rfl rfl rfl (fch_slices_SortFunc_Member_v0 _ 56 [] _ fc_role_Share_c1 ⟨_, Try.func56, rfl, rfl⟩ w0 _ h20) (pure_hpA _) (pure_hpA _) rfl (by simp [A.flatO, fl_noPt]) (by simp [A.flatO, fl_noPt]) (cons_eq (gb_ne (isE_ne h18)) rfl) (.cons (argVw rfl rfl rfl) (.cons (.plain (.t (.d (.fn _))) rfl) .nil)) rfl (.tup .nil)) rfl ?_
         obtain ⟨x21, h22, h⟩ := bind_some h
         have h22 : x19.length = x16.length := lenI_eq h22
         refine o_nil ?_
         repeat (first | refine k1 ?_ | refine k4 ?_)
         refine c_sr ?_
         refine o_s (.t (.view 0 0 35 2 x16.length)) (g0 rfl) rfl rfl rfl ?_
         refine o_s (.t (.view 0 0 35 2 x16.length)) (g0 rfl) rfl rfl rfl ?_
         refine o_s (.t (.d (.lit (.int .i64 0)))) (g0 rfl) rfl rfl rfl ?_
         refine o_nil ?_
         repeat (first | refine k1 ?_ | refine k4 ?_)
         refine c_frz 8 0 rfl rfl (by first | (simp; done) | (rw [List.length_map]; omega)) (fl_flat _ _) (map_row (c := cS_api_Member) (fun _ => rfl) _) rfl ⟨.inr ⟨_, rfl, pure_hpA _⟩, by (repeat (first | exact ObP.nil | refine ObP.cons (.inl rfl) ?_ | refine ObP.cons (.inr (fun _ => rfl)) ?_ | refine ObP.cons (.inr (ob_box (fl_noPt _ _))) ?_ | refine ObP.cons (.inr (ob_gb _ _)) ?_))⟩ rfl ?_
         refine c_ret ?_
         repeat (first | refine k3 ?_ | refine k5 ?_)
         obtain rfl := Option.some.inj h
         exact ⟨⟨_, rfl, (.tup (.cons (.refl _) (.cons (.refl _) .nil)))⟩, trivial, rfl⟩

theorem fch_role_Change (p0 : (List S_api_Member)) (p1 : (List UInt8)) (p2 : (List UInt8)) (p3 : Int) (w0 : Hp) (r : ((List S_api_Member) × Int)) (h : m_role_Change p0 p1 p2 p3 = some r) : FCH Try.prog 39 [.t (.d (.seq 2 (List.map cS_api_Member p0))), .t (.d (.lit (.string ⟨⟨p1⟩⟩))), .t (.d (.lit (.string ⟨⟨p2⟩⟩))), .t (.d (.lit (.int .i64 p3)))] [] [] (hpA w0) (hpA w0) (.tup [.d (.seq 2 (List.map cS_api_Member r.1)), .d (.lit (.int .i64 r.2))]) := by
 refine fch_mk (rs := [.tmp 8, .tmp 9]) (n := 72) [0] Try.func39 rfl rfl (Nat.le_of_ble_eq_true rfl) rfl (pins := []) rfl (L := [(HK, .hp (hpA w0)), (OB + 0, .free), (0, .t (.d (.seq 2 (List.map cS_api_Member p0)))), (1, .t (.d (.lit (.string ⟨⟨p1⟩⟩)))), (2, .t (.d (.lit (.string ⟨⟨p2⟩⟩)))), (3, .t (.d (.lit (.int .i64 p3))))]) rfl ?_
 refine c_sr ?_
 refine o_s (.t (.d (.lit (.slice none 0 0)))) (g0 rfl) rfl rfl rfl ?_
 refine o_s (.t (.d (.lit (.int .i64 0)))) (g0 rfl) rfl rfl rfl ?_
 refine o_nil ?_
 repeat (first | refine k1 ?_ | refine k4 ?_)
 refine c_sr ?_
 refine o_s (.t (.d (.seq 2 (List.map cS_api_Member p0)))) (g0 rfl) rfl rfl rfl ?_
 refine o_s (.t (.d (.lit (.string ⟨⟨p2⟩⟩)))) (g0 rfl) rfl rfl rfl ?_
 obtain ⟨x1, h2, h⟩ := bind_some h
 refine o_ca (fc_role_at _ _ _ h2) (g0 rfl) rfl rfl rfl rfl rfl rfl rfl (.cons (.refl _) (.cons (.refl _) .nil)) rfl rfl ?_
 refine o_s (.t (.d (.lit (.int .i64 x1)))) (g0 rfl) rfl rfl rfl ?_
 refine o_nil ?_
 repeat (first | refine k1 ?_ | refine k4 ?_)
 refine c_cutH (fun (_ : Unit) => [(0, .t (.d (.seq 2 (List.map cS_api_Member p0)))), (3, .t (.d (.lit (.int .i64 p3)))), (10, .t (.d (.lit (.int .i64 x1)))), (HK, .hp (hpA w0)), (OB + 0, .free)]) (fun (_ : Unit) => m_role_Change_j1 p0 x1 p3 = some r) ?_ ?_
 ·
  refine c_block ?_
  refine c_cutH (fun (y8 : Bool) => [(0, .t (.d (.seq 2 (List.map cS_api_Member p0)))), (1, .t (.d (.lit (.string ⟨⟨p1⟩⟩)))), (3, .t (.d (.lit (.int .i64 p3)))), (10, .t (.d (.lit (.int .i64 x1)))), (15, .t (.d (.lit (.bool y8)))), (HK, .hp (hpA w0)), (OB + 0, .free)]) (fun (y8 : Bool) => m_role_Change_j2 p0 p1 x1 p3 y8 = some r) ?_ ?_
  ·
   refine c_region ?_
   refine o_s (.t (.d (.seq 2 (List.map cS_api_Member p0)))) (g0 rfl) rfl rfl rfl ?_
   obtain ⟨x26, h27, h⟩ := bind_some h
   refine o_ca (fc_role_Right _ _ h27) (g0 rfl) rfl rfl rfl rfl rfl rfl rfl (.cons (.refl _) .nil) rfl rfl ?_
   refine o_s (.t (.d (.lit (.bool (!x26))))) (g0 rfl) rfl rfl rfl ?_
   refine o_s (.t (.d (.lit (.bool (!x26))))) (g0 rfl) rfl rfl rfl ?_
   rcases bif_some h with ⟨h28, h⟩ | ⟨h28, h⟩
   ·
    refine o_skip rfl rfl rfl h28 rfl rfl ?_
    refine o_skip rfl rfl rfl h28 rfl rfl ?_
    refine o_skip rfl rfl rfl h28 rfl rfl ?_
    refine o_pk (.t (.d (.lit (.bool true)))) (b := true) h28 (g0 rfl) rfl rfl rfl rfl rfl ?_
    refine o_s (.t (.d (.lit (.bool true)))) (g0 rfl) rfl rfl rfl ?_
    refine o_skip rfl rfl rfl rfl rfl rfl ?_
    refine o_skip rfl rfl rfl rfl rfl rfl ?_
    refine o_skip rfl rfl rfl rfl rfl rfl ?_
    refine o_pk (.t (.d (.lit (.bool true)))) (b := true) rfl (g0 rfl) rfl rfl rfl rfl rfl ?_
    refine o_s (.t (.d (.lit (.bool true)))) (g0 rfl) rfl rfl rfl ?_
    refine o_nil ?_
    repeat (first | refine k1 ?_ | refine k4 ?_)
    exact ⟨true, [], h, rfl, ⟨.inr ⟨_, rfl, pure_hpA _⟩, by (repeat (first | exact ObP.nil | refine ObP.cons (.inl rfl) ?_ | refine ObP.cons (.inr (fun _ => rfl)) ?_ | refine ObP.cons (.inr (ob_box (fl_noPt _ _))) ?_ | refine ObP.cons (.inr (ob_gb _ _)) ?_))⟩, ⟨(.refl _), ⟨(.refl _), ⟨(.refl _), ⟨(.refl _), ⟨(.refl _), ⟨(.refl _), ⟨(.refl _), trivial⟩⟩⟩⟩⟩⟩⟩, rfl⟩
   ·
    refine o_s (.t (.d (.lit (.string ⟨⟨p2⟩⟩)))) (gy rfl rfl rfl h28) rfl rfl rfl ?_
    obtain ⟨x29, h30, h⟩ := bind_some h
    refine o_ca (fc_tree_Name _ _ h30) (gy rfl rfl rfl h28) rfl rfl rfl rfl rfl rfl rfl (.cons (.refl _) .nil) rfl rfl ?_
    refine o_s (.t (.d (.lit (.bool (!x29))))) (gy rfl rfl rfl h28) rfl rfl rfl ?_
    refine o_pk (.t (.d (.lit (.bool (!x29))))) (b := false) h28 (g0 rfl) rfl rfl rfl rfl rfl ?_
    refine o_s (.t (.d (.lit (.bool (!x29))))) (g0 rfl) rfl rfl rfl ?_
    rcases bif_some h with ⟨h31, h⟩ | ⟨h31, h⟩
    ·
     refine o_skip rfl rfl rfl h31 rfl rfl ?_
     refine o_skip rfl rfl rfl h31 rfl rfl ?_
     refine o_skip rfl rfl rfl h31 rfl rfl ?_
     refine o_pk (.t (.d (.lit (.bool true)))) (b := true) h31 (g0 rfl) rfl rfl rfl rfl rfl ?_
     refine o_s (.t (.d (.lit (.bool true)))) (g0 rfl) rfl rfl rfl ?_
     refine o_nil ?_
     repeat (first | refine k1 ?_ | refine k4 ?_)
     exact ⟨true, [], h, rfl, ⟨.inr ⟨_, rfl, pure_hpA _⟩, by (repeat (first | exact ObP.nil | refine ObP.cons (.inl rfl) ?_ | refine ObP.cons (.inr (fun _ => rfl)) ?_ | refine ObP.cons (.inr (ob_box (fl_noPt _ _))) ?_ | refine ObP.cons (.inr (ob_gb _ _)) ?_))⟩, ⟨(.refl _), ⟨(.refl _), ⟨(.refl _), ⟨(.refl _), ⟨(.refl _), ⟨(.refl _), ⟨(.refl _), trivial⟩⟩⟩⟩⟩⟩⟩, rfl⟩
    ·
     refine o_s (.t (.d (.lit (.int .i64 p3)))) (gy rfl rfl rfl h31) rfl rfl rfl ?_
     obtain ⟨x32, h33, h⟩ := bind_some h
     refine o_ca (fc_role_is _ _ h33) (gy rfl rfl rfl h31) rfl rfl rfl rfl rfl rfl rfl (.cons (.refl _) .nil) rfl rfl ?_
     refine o_s (.t (.d (.lit (.bool (!x32))))) (gy rfl rfl rfl h31) rfl rfl rfl ?_
     refine o_pk (.t (.d (.lit (.bool (!x32))))) (b := false) h31 (g0 rfl) rfl rfl rfl rfl rfl ?_
     refine o_s (.t (.d (.lit (.bool (!x32))))) (g0 rfl) rfl rfl rfl ?_
     refine o_nil ?_
     repeat (first | refine k1 ?_ | refine k4 ?_)
     exact ⟨(!x32), [], h, rfl, ⟨.inr ⟨_, rfl, pure_hpA _⟩, by (repeat (first | exact ObP.nil | refine ObP.cons (.inl rfl) ?_ | refine ObP.cons (.inr (fun _ => rfl)) ?_ | refine ObP.cons (.inr (ob_box (fl_noPt _ _))) ?_ | refine ObP.cons (.inr (ob_gb _ _)) ?_))⟩, ⟨(.refl _), ⟨(.refl _), ⟨(.refl _), ⟨(.refl _), ⟨(.refl _), ⟨(.refl _), ⟨(.refl _), trivial⟩⟩⟩⟩⟩⟩⟩, rfl⟩
  ·
   rintro y8 h
   rcases bif_some h with ⟨h9, h⟩ | ⟨h9, h⟩
   ·
    refine c_t h9 rfl ?_
    refine c_sr ?_
    refine o_s (.t (.d (.lit (.slice none 0 0)))) (g0 rfl) rfl rfl rfl ?_
    refine o_s (.t (.d (.lit (.int .i64 2)))) (g0 rfl) rfl rfl rfl ?_
    refine o_nil ?_
    repeat (first | refine k1 ?_ | refine k4 ?_)
    refine c_ret ?_
    repeat (first | refine k3 ?_ | refine k5 ?_)
    obtain rfl := Option.some.inj h
    exact ⟨⟨_, rfl, (.tup (.cons (.d (.nil _)) (.cons (.refl _) .nil)))⟩, trivial, rfl⟩
   ·
    refine c_f h9 rfl ?_
    refine c_sr ?_
    refine o_s (.t (.d (.seq 2 (List.map cS_api_Member p0)))) (g0 rfl) rfl rfl rfl ?_
    refine o_s (.t (.d (.lit (.string ⟨⟨p1⟩⟩)))) (g0 rfl) rfl rfl rfl ?_
    obtain ⟨x10, h11, h⟩ := bind_some h
    refine o_ca (fc_role_Of _ _ _ h11) (g0 rfl) rfl rfl rfl rfl rfl rfl rfl (.cons (.refl _) (.cons (.refl _) .nil)) rfl rfl ?_
    refine o_s (.t (.d (.lit (.bool (decide (x10 < 3)))))) (g0 rfl) rfl rfl rfl ?_
    refine o_s (.t (.d (.lit (.bool (decide (x10 < 3)))))) (g0 rfl) rfl rfl rfl ?_
    refine o_nil ?_
    repeat (first | refine k1 ?_ | refine k4 ?_)
    rcases bif_some h with ⟨h12, h⟩ | ⟨h12, h⟩
    ·
     refine c_t h12 rfl ?_
     refine c_sr ?_
     refine o_s (.t (.d (.lit (.slice none 0 0)))) (g0 rfl) rfl rfl rfl ?_
     refine o_s (.t (.d (.lit (.int .i64 40)))) (g0 rfl) rfl rfl rfl ?_
     refine o_nil ?_
     repeat (first | refine k1 ?_ | refine k4 ?_)
     refine c_ret ?_
     repeat (first | refine k3 ?_ | refine k5 ?_)
     obtain rfl := Option.some.inj h
     exact ⟨⟨_, rfl, (.tup (.cons (.d (.nil _)) (.cons (.refl _) .nil)))⟩, trivial, rfl⟩
    ·
     refine c_f h12 rfl ?_
     refine c_sr ?_
     refine o_s (.t (.d (.lit (.int .i64 x1)))) (g0 rfl) rfl rfl rfl ?_
     refine o_s (.t (.d (.lit (.bool (decide (x1 < 0)))))) (g0 rfl) rfl rfl rfl ?_
     refine o_s (.t (.d (.lit (.bool (decide (x1 < 0)))))) (g0 rfl) rfl rfl rfl ?_
     refine o_nil ?_
     repeat (first | refine k1 ?_ | refine k4 ?_)
     rcases bif_some h with ⟨h13, h⟩ | ⟨h13, h⟩
     ·
      refine c_t h13 rfl ?_
      refine c_sr ?_
      refine o_s (.t (.d (.lit (.slice none 0 0)))) (g0 rfl) rfl rfl rfl ?_
      refine o_s (.t (.d (.lit (.int .i64 35)))) (g0 rfl) rfl rfl rfl ?_
      refine o_nil ?_
      repeat (first | refine k1 ?_ | refine k4 ?_)
      refine c_ret ?_
      repeat (first | refine k3 ?_ | refine k5 ?_)
      obtain rfl := Option.some.inj h
      exact ⟨⟨_, rfl, (.tup (.cons (.d (.nil _)) (.cons (.refl _) .nil)))⟩, trivial, rfl⟩
     ·
      refine c_f h13 rfl ?_
      refine c_sr ?_
      refine o_s (.t (.d (.seq 2 (List.map cS_api_Member p0)))) (g0 rfl) rfl rfl rfl ?_
      refine o_s (.t (.d (.lit (.string ⟨⟨p1⟩⟩)))) (g0 rfl) rfl rfl rfl ?_
      refine o_s (.t (.d (.lit (.int .i64 p3)))) (g0 rfl) rfl rfl rfl ?_
      refine o_s (.t (.d (.seq 2 (List.map cS_api_Member p0)))) (g0 rfl) rfl rfl rfl ?_
      refine o_s (.t (.d (.lit (.int .i64 x1)))) (g0 rfl) rfl rfl rfl ?_
      obtain ⟨x14, h15, h⟩ := bind_some h
      refine o_c (g0 rfl) rfl rfl rfl (idxE h15) (idxC h15) ?_
      refine o_s (.imm [.lit (.int .i64 x14.Role)]) (g0 rfl) rfl rfl rfl ?_
      refine o_s (.t (.d (.lit (.int .i64 x14.Role)))) (g0 rfl) rfl rfl rfl ?_
      refine o_s (.t (.own 3 1 (List.map cI64 [p3, x14.Role]))) (g0 rfl) rfl rfl rfl ?_
      obtain ⟨x16, h17, h⟩ := bind_some h
      refine o_ca (fc_role_high _ _ _ _ h17) (g0 rfl) rfl rfl rfl rfl rfl rfl rfl (.cons (.refl _) (.cons (.refl _) (.cons (.refl _) .nil))) rfl rfl ?_
      refine o_s (.t (.d (.lit (.bool x16)))) (g0 rfl) rfl rfl rfl ?_
      refine o_nil ?_
      repeat (first | refine k1 ?_ | refine k4 ?_)
      rcases bif_some h with ⟨h18, h⟩ | ⟨h18, h⟩
      ·
       refine c_t h18 rfl ?_
       refine c_sr ?_
       refine o_s (.t (.d (.lit (.slice none 0 0)))) (g0 rfl) rfl rfl rfl ?_
       refine o_s (.t (.d (.lit (.int .i64 40)))) (g0 rfl) rfl rfl rfl ?_
       refine o_nil ?_
       repeat (first | refine k1 ?_ | refine k4 ?_)
       refine c_ret ?_
       repeat (first | refine k3 ?_ | refine k5 ?_)
       obtain rfl := Option.some.inj h
       exact ⟨⟨_, rfl, (.tup (.cons (.d (.nil _)) (.cons (.refl _) .nil)))⟩, trivial, rfl⟩
      ·
       refine c_f h18 rfl ?_
       refine c_sr ?_
       refine o_s (.t (.d (.seq 2 (List.map cS_api_Member p0)))) (g0 rfl) rfl rfl rfl ?_
       refine o_s (.t (.d (.lit (.int .i64 x1)))) (g0 rfl) rfl rfl rfl ?_
       obtain ⟨x19, h20, h⟩ := bind_some h
       refine o_c (g0 rfl) rfl rfl rfl (idxE h20) (idxC h20) ?_
       refine o_s (.imm [.lit (.int .i64 x19.Role)]) (g0 rfl) rfl rfl rfl ?_
       refine o_s (.t (.d (.lit (.int .i64 x19.Role)))) (g0 rfl) rfl rfl rfl ?_
       refine o_s (.t (.d (.lit (.bool (x19.Role == 4))))) (g0 rfl) rfl rfl rfl ?_
       refine o_s (.t (.d (.lit (.bool (x19.Role == 4))))) (g0 rfl) rfl rfl rfl ?_
       rcases bif_some h with ⟨h21, h⟩ | ⟨h21, h⟩
       ·
        refine o_s (.t (.d (.lit (.int .i64 p3)))) (gy rfl rfl rfl h21) rfl rfl rfl ?_
        refine o_s (.t (.d (.lit (.bool (decide (p3 < 4)))))) (gy rfl rfl rfl h21) rfl rfl rfl ?_
        refine o_pk (.t (.d (.lit (.bool (decide (p3 < 4)))))) (b := true) h21 (g0 rfl) rfl rfl rfl rfl rfl ?_
        refine o_s (.t (.d (.lit (.bool (decide (p3 < 4)))))) (g0 rfl) rfl rfl rfl ?_
        rcases bif_some h with ⟨h22, h⟩ | ⟨h22, h⟩
        ·
         refine o_s (.t (.d (.seq 2 (List.map cS_api_Member p0)))) (gy rfl rfl rfl h22) rfl rfl rfl ?_
         obtain ⟨x23, h24, h⟩ := bind_some h
         refine o_ca (fc_role_owners _ _ h24) (gy rfl rfl rfl h22) rfl rfl rfl rfl rfl rfl rfl (.cons (.refl _) .nil) rfl rfl ?_
         refine o_s (.t (.d (.lit (.bool (x23 == 1))))) (gy rfl rfl rfl h22) rfl rfl rfl ?_
         refine o_pk (.t (.d (.lit (.bool (x23 == 1))))) (b := true) h22 (g0 rfl) rfl rfl rfl rfl rfl ?_
         refine o_s (.t (.d (.lit (.bool (x23 == 1))))) (g0 rfl) rfl rfl rfl ?_
         refine o_nil ?_
         repeat (first | refine k1 ?_ | refine k4 ?_)
         rcases bif_some h with ⟨h25, h⟩ | ⟨h25, h⟩
         ·
          refine c_t h25 rfl ?_
          refine c_sr ?_
          refine o_s (.t (.d (.lit (.slice none 0 0)))) (g0 rfl) rfl rfl rfl ?_
          refine o_s (.t (.d (.lit (.int .i64 46)))) (g0 rfl) rfl rfl rfl ?_
          refine o_nil ?_
          repeat (first | refine k1 ?_ | refine k4 ?_)
          refine c_ret ?_
          repeat (first | refine k3 ?_ | refine k5 ?_)
          obtain rfl := Option.some.inj h
          exact ⟨⟨_, rfl, (.tup (.cons (.d (.nil _)) (.cons (.refl _) .nil)))⟩, trivial, rfl⟩
         ·
          refine c_f h25 rfl ?_
          refine c_skip ?_
          repeat (first | refine k1 ?_ | refine k4 ?_)
          exact ⟨(), [], h, rfl, ⟨.inr ⟨_, rfl, pure_hpA _⟩, by (repeat (first | exact ObP.nil | refine ObP.cons (.inl rfl) ?_ | refine ObP.cons (.inr (fun _ => rfl)) ?_ | refine ObP.cons (.inr (ob_box (fl_noPt _ _))) ?_ | refine ObP.cons (.inr (ob_gb _ _)) ?_))⟩, ⟨(.refl _), ⟨(.refl _), ⟨(.refl _), ⟨(.refl _), ⟨(.refl _), trivial⟩⟩⟩⟩⟩, rfl⟩
        ·
         refine o_skip rfl rfl rfl h22 rfl rfl ?_
         refine o_skip rfl rfl rfl h22 rfl rfl ?_
         refine o_skip rfl rfl rfl h22 rfl rfl ?_
         refine o_pk (.t (.d (.lit (.bool false)))) (b := false) h22 (g0 rfl) rfl rfl rfl rfl rfl ?_
         refine o_s (.t (.d (.lit (.bool false)))) (g0 rfl) rfl rfl rfl ?_
         refine o_nil ?_
         repeat (first | refine k1 ?_ | refine k4 ?_)
         refine c_f rfl rfl ?_
         refine c_skip ?_
         repeat (first | refine k1 ?_ | refine k4 ?_)
         exact ⟨(), [], h, rfl, ⟨.inr ⟨_, rfl, pure_hpA _⟩, by (repeat (first | exact ObP.nil | refine ObP.cons (.inl rfl) ?_ | refine ObP.cons (.inr (fun _ => rfl)) ?_ | refine ObP.cons (.inr (ob_box (fl_noPt _ _))) ?_ | refine ObP.cons (.inr (ob_gb _ _)) ?_))⟩, ⟨(.refl _), ⟨(.refl _), ⟨(.refl _), ⟨(.refl _), ⟨(.refl _), trivial⟩⟩⟩⟩⟩, rfl⟩
       ·
        refine o_skip rfl rfl rfl h21 rfl rfl ?_
        refine o_skip rfl rfl rfl h21 rfl rfl ?_
        refine o_pk (.t (.d (.lit (.bool false)))) (b := false) h21 (g0 rfl) rfl rfl rfl rfl rfl ?_
        refine o_s (.t (.d (.lit (.bool false)))) (g0 rfl) rfl rfl rfl ?_
        refine o_skip rfl rfl rfl rfl rfl rfl ?_
        refine o_skip rfl rfl rfl rfl rfl rfl ?_
        refine o_skip rfl rfl rfl rfl rfl rfl ?_
        refine o_pk (.t (.d (.lit (.bool false)))) (b := false) rfl (g0 rfl) rfl rfl rfl rfl rfl ?_
        refine o_s (.t (.d (.lit (.bool false)))) (g0 rfl) rfl rfl rfl ?_
        refine o_nil ?_
        repeat (first | refine k1 ?_ | refine k4 ?_)
        refine c_f rfl rfl ?_
        refine c_skip ?_
        repeat (first | refine k1 ?_ | refine k4 ?_)
        exact ⟨(), [], h, rfl, ⟨.inr ⟨_, rfl, pure_hpA _⟩, by (repeat (first | exact ObP.nil | refine ObP.cons (.inl rfl) ?_ | refine ObP.cons (.inr (fun _ => rfl)) ?_ | refine ObP.cons (.inr (ob_box (fl_noPt _ _))) ?_ | refine ObP.cons (.inr (ob_gb _ _)) ?_))⟩, ⟨(.refl _), ⟨(.refl _), ⟨(.refl _), ⟨(.refl _), ⟨(.refl _), trivial⟩⟩⟩⟩⟩, rfl⟩
 ·
  rintro ⟨⟩ h
  refine c_sr ?_
  refine o_s (.t (.d (.seq 2 (List.map cS_api_Member p0)))) (g0 rfl) rfl rfl rfl ?_
  obtain ⟨x3, h4, h⟩ := bind_some h
  rcases bif_some h with ⟨h5, h⟩ | ⟨h5, h⟩
  ·
   exact none_ne h
  ·
   refine o_of (e := [((OB + 0), gbA cS_api_Member x3), (65, .t (.view 0 0 35 2 x3.length))]) (g0 rfl) (h_callobj (c := cS_api_Member) (Mk.refl _) rfl rfl rfl rfl rfl rfl rfl (fc_slices_Clone_Member _ _ h4) (.cons (.refl _) .nil) rfl rfl rfl (by rw [h5]; rfl) rfl (fun _ => rfl)) rfl ?_
   refine o_s (.t (.view 0 0 35 2 x3.length)) (g0 rfl) rfl rfl rfl ?_
   refine o_nil ?_
   repeat (first | refine k1 ?_ | refine k4 ?_)
   refine c_sr ?_
   refine o_s (.t (.view 0 0 35 2 x3.length)) (g0 rfl) rfl rfl rfl ?_
   refine o_s (.t (.d (.lit (.int .i64 x1)))) (g0 rfl) rfl rfl rfl ?_
   refine o_s (.t (.d (.lit (.int .i64 p3)))) (g0 rfl) rfl rfl rfl ?_
   obtain ⟨x6, h7, h⟩ := bind_some h
   refine o_of (e := [(69, .ref (OB + 0) (0 + Int.toNat x1 * 2))]) (g0 rfl) (h_lix (Mk.refl _) rfl rfl rfl rfl rfl (idxV rfl h7) rfl rfl rfl) rfl ?_
   refine o_s (.ref (OB + 0) (0 + Int.toNat x1 * 2 + 1)) (g0 rfl) rfl rfl rfl ?_
   refine o_of (e := [((OB + 0), gbA cS_api_Member (x3.set (Int.toNat x1) (S_api_Member.mk x6.Name p3)))]) (g0 rfl) (OpH.ob (h_lst (Mk.refl _) rfl rfl rfl rfl (gb_box h7) rfl rfl (fl_room2 (c := cS_api_Member) (k := 2) h7 (fun _ => rfl) rfl) (fl_put2 (c := cS_api_Member) (k := 2) h7 (S_api_Member.mk x6.Name p3) (fun _ => rfl) rfl rfl)) (gb_set h7)) rfl ?_
   refine o_nil ?_
   repeat (first | refine k1 ?_ | refine k4 ?_)
   refine c_sr ?_
   refine o_s (.t (.view 0 0 35 2 x3.length)) (g0 rfl) rfl rfl rfl ?_
   refine o_s (.t (.view 0 0 35 2 x3.length)) (g0 rfl) rfl rfl rfl ?_
   refine o_s (.t (.d (.lit (.int .i64 0)))) (g0 rfl) rfl rfl rfl ?_
   refine o_nil ?_
   repeat (first | refine k1 ?_ | refine k4 ?_)
   refine c_frzN (cc := cS_api_Member) (y := ((x3.set (Int.toNat x1) (S_api_Member.mk x6.Name p3)) : List S_api_Member)) (k := 2) 8 0 rfl (by simp) rfl (fun _ => rfl) rfl ⟨.inr ⟨_, rfl, pure_hpA _⟩, by (repeat (first | exact ObP.nil | refine ObP.cons (.inl rfl) ?_ | refine ObP.cons (.inr (fun _ => rfl)) ?_ | refine ObP.cons (.inr (ob_box (fl_noPt _ _))) ?_ | refine ObP.cons (.inr (ob_gb _ _)) ?_))⟩ rfl ?_
   refine c_ret ?_
   repeat (first | refine k3 ?_ | refine k5 ?_)
   obtain rfl := Option.some.inj h
   exact ⟨⟨_, rfl, (.tup (.cons (.refl _) (.cons (.refl _) .nil)))⟩, trivial, rfl⟩

theorem fch_role_Step (p0 : (List S_api_Member)) (p1 : (List S_api_Member)) (p2 : (List UInt8)) (w0 : Hp) (r : (Bool × Int)) (h : m_role_Step p0 p1 p2 = some r) : FCH Try.prog 17 [.t (.d (.seq 2 (List.map cS_api_Member p0))), .t (.d (.seq 2 (List.map cS_api_Member p1))), .t (.d (.lit (.string ⟨⟨p2⟩⟩)))] [] [] (hpA w0) (hpA w0) (.tup [.d (.lit (.bool r.1)), .d (.lit (.int .i64 r.2))]) := by
 refine fch_mk (rs := [.tmp 6, .tmp 7]) (n := 73) [] Try.func17 rfl rfl (Nat.le_of_ble_eq_true rfl) rfl (pins := []) rfl (L := [(HK, .hp (hpA w0)), (0, .t (.d (.seq 2 (List.map cS_api_Member p0)))), (1, .t (.d (.seq 2 (List.map cS_api_Member p1)))), (2, .t (.d (.lit (.string ⟨⟨p2⟩⟩))))]) rfl ?_
 refine c_sr ?_
 refine o_s (.t (.d (.lit (.bool false)))) (g0 rfl) rfl rfl rfl ?_
 refine o_s (.t (.d (.lit (.int .i64 0)))) (g0 rfl) rfl rfl rfl ?_
 refine o_nil ?_
 repeat (first | refine k1 ?_ | refine k4 ?_)
 refine c_seq ?_
 refine c_sr ?_
 refine o_s (.t (.d (.seq 2 (List.map cS_api_Member p0)))) (g0 rfl) rfl rfl rfl ?_
 obtain ⟨x1, h2, h⟩ := bind_some h
 refine o_ca (fc_role_Right _ _ h2) (g0 rfl) rfl rfl rfl rfl rfl rfl rfl (.cons (.refl _) .nil) rfl rfl ?_
 refine o_s (.t (.d (.lit (.bool (!x1))))) (g0 rfl) rfl rfl rfl ?_
 refine o_s (.t (.d (.lit (.bool (!x1))))) (g0 rfl) rfl rfl rfl ?_
 rcases bif_some h with ⟨h3, h⟩ | ⟨h3, h⟩
 ·
  refine o_skip rfl rfl rfl h3 rfl rfl ?_
  refine o_skip rfl rfl rfl h3 rfl rfl ?_
  refine o_skip rfl rfl rfl h3 rfl rfl ?_
  refine o_pk (.t (.d (.lit (.bool true)))) (b := true) h3 (g0 rfl) rfl rfl rfl rfl rfl ?_
  refine o_nil ?_
  repeat (first | refine k1 ?_ | refine k4 ?_)
  refine c_t rfl rfl ?_
  refine c_sr ?_
  refine o_s (.t (.d (.lit (.bool false)))) (g0 rfl) rfl rfl rfl ?_
  refine o_s (.t (.d (.lit (.int .i64 2)))) (g0 rfl) rfl rfl rfl ?_
  refine o_nil ?_
  repeat (first | refine k1 ?_ | refine k4 ?_)
  refine c_ret ?_
  repeat (first | refine k3 ?_ | refine k5 ?_)
  obtain rfl := Option.some.inj h
  exact ⟨⟨_, rfl, (.tup (.cons (.refl _) (.cons (.refl _) .nil)))⟩, trivial, rfl⟩
 ·
  refine o_s (.t (.d (.seq 2 (List.map cS_api_Member p1)))) (gy rfl rfl rfl h3) rfl rfl rfl ?_
  obtain ⟨x4, h5, h⟩ := bind_some h
  refine o_ca (fc_role_Right _ _ h5) (gy rfl rfl rfl h3) rfl rfl rfl rfl rfl rfl rfl (.cons (.refl _) .nil) rfl rfl ?_
  refine o_s (.t (.d (.lit (.bool (!x4))))) (gy rfl rfl rfl h3) rfl rfl rfl ?_
  refine o_pk (.t (.d (.lit (.bool (!x4))))) (b := false) h3 (g0 rfl) rfl rfl rfl rfl rfl ?_
  refine o_nil ?_
  repeat (first | refine k1 ?_ | refine k4 ?_)
  rcases bif_some h with ⟨h6, h⟩ | ⟨h6, h⟩
  ·
   refine c_t h6 rfl ?_
   refine c_sr ?_
   refine o_s (.t (.d (.lit (.bool false)))) (g0 rfl) rfl rfl rfl ?_
   refine o_s (.t (.d (.lit (.int .i64 2)))) (g0 rfl) rfl rfl rfl ?_
   refine o_nil ?_
   repeat (first | refine k1 ?_ | refine k4 ?_)
   refine c_ret ?_
   repeat (first | refine k3 ?_ | refine k5 ?_)
   obtain rfl := Option.some.inj h
   exact ⟨⟨_, rfl, (.tup (.cons (.refl _) (.cons (.refl _) .nil)))⟩, trivial, rfl⟩
  ·
   refine c_f h6 rfl ?_
   refine c_skip ?_
   repeat (first | refine k1 ?_ | refine k4 ?_)
   refine c_sr ?_
   refine o_s (.t (.d (.seq 2 (List.map cS_api_Member p0)))) (g0 rfl) rfl rfl rfl ?_
   refine o_s (.t (.d (.seq 2 (List.map cS_api_Member p1)))) (g0 rfl) rfl rfl rfl ?_
   obtain ⟨x7, h8, h⟩ := bind_some h
   refine o_ca (fc_role_differ _ _ _ h8) (g0 rfl) rfl rfl rfl rfl rfl rfl rfl (.cons (.refl _) (.cons (.refl _) .nil)) rfl rfl ?_
   refine o_2 (.t (.d (.seq 1 (List.map cStr x7)))) (.t (.own 9 1 (List.map cStr x7))) (g0 rfl) rfl rfl rfl ?_
   refine o_nil ?_
   repeat (first | refine k1 ?_ | refine k4 ?_)
   refine c_seq ?_
   refine c_sr ?_
   refine o_s (.t (.d (.seq 1 (List.map cStr x7)))) (g0 rfl) rfl rfl rfl ?_
   refine o_c (g0 rfl) rfl rfl rfl (lenE _ _) trivial ?_
   refine o_s (.t (.d (.lit (.bool ((x7.length : Int) != 1))))) (g0 rfl) rfl rfl rfl ?_
   refine o_nil ?_
   repeat (first | refine k1 ?_ | refine k4 ?_)
   rcases bif_some h with ⟨h9, h⟩ | ⟨h9, h⟩
   ·
    refine c_t h9 rfl ?_
    refine c_sr ?_
    refine o_s (.t (.d (.lit (.bool false)))) (g0 rfl) rfl rfl rfl ?_
    refine o_s (.t (.d (.lit (.int .i64 11)))) (g0 rfl) rfl rfl rfl ?_
    refine o_nil ?_
    repeat (first | refine k1 ?_ | refine k4 ?_)
    refine c_ret ?_
    repeat (first | refine k3 ?_ | refine k5 ?_)
    obtain rfl := Option.some.inj h
    exact ⟨⟨_, rfl, (.tup (.cons (.refl _) (.cons (.refl _) .nil)))⟩, trivial, rfl⟩
   ·
    refine c_f h9 rfl ?_
    refine c_skip ?_
    repeat (first | refine k1 ?_ | refine k4 ?_)
    refine c_sr ?_
    refine o_2 (.t (.d (.seq 1 (List.map cStr x7)))) (.t (.own 9 1 (List.map cStr x7))) (g0 rfl) rfl rfl rfl ?_
    obtain ⟨x10, h11, h⟩ := bind_some h
    refine o_c (g0 rfl) rfl rfl rfl (idxE h11) (idxC h11) ?_
    refine o_s (.t (.d (.lit (.string ⟨⟨x10⟩⟩)))) (g0 rfl) rfl rfl rfl ?_
    refine o_s (.t (.d (.lit (.string ⟨⟨x10⟩⟩)))) (g0 rfl) rfl rfl rfl ?_
    refine o_nil ?_
    repeat (first | refine k1 ?_ | refine k4 ?_)
    refine c_sr ?_
    refine o_s (.t (.d (.seq 2 (List.map cS_api_Member p1)))) (g0 rfl) rfl rfl rfl ?_
    refine o_s (.t (.d (.lit (.string ⟨⟨x10⟩⟩)))) (g0 rfl) rfl rfl rfl ?_
    obtain ⟨x12, h13, h⟩ := bind_some h
    refine o_ca (fc_role_Of _ _ _ h13) (g0 rfl) rfl rfl rfl rfl rfl rfl rfl (.cons (.refl _) (.cons (.refl _) .nil)) rfl rfl ?_
    refine o_s (.t (.d (.lit (.int .i64 x12)))) (g0 rfl) rfl rfl rfl ?_
    refine o_nil ?_
    repeat (first | refine k1 ?_ | refine k4 ?_)
    refine c_sr ?_
    refine o_s (.t (.d (.lit (.int .i64 0)))) (g0 rfl) rfl rfl rfl ?_
    refine o_nil ?_
    repeat (first | refine k1 ?_ | refine k4 ?_)
    refine c_cutH (fun (y14 : Int) => [(10, .t (.d (.lit (.int .i64 x12)))), (11, .t (.d (.lit (.int .i64 y14)))), (HK, .hp (hpA w0))]) (fun (y14 : Int) => m_role_Step_j1 x12 y14 = some r) ?_ ?_
    ·
     refine c_sr ?_
     refine o_s (.t (.d (.lit (.int .i64 x12)))) (g0 rfl) rfl rfl rfl ?_
     refine o_nil ?_
     repeat (first | refine k1 ?_ | refine k4 ?_)
     refine c_block ?_
     refine c_cutH (fun (_ : Unit) => [(0, .t (.d (.seq 2 (List.map cS_api_Member p0)))), (2, .t (.d (.lit (.string ⟨⟨p2⟩⟩)))), (9, .t (.d (.lit (.string ⟨⟨x10⟩⟩)))), (10, .t (.d (.lit (.int .i64 x12)))), (HK, .hp (hpA w0))]) (fun (_ : Unit) => m_role_Step_j2 p0 x10 p2 x12 = some r) ?_ ?_
     ·
      refine c_block ?_
      refine c_block ?_
      refine c_block ?_
      refine c_cutH (fun (_ : Unit) => [(0, .t (.d (.seq 2 (List.map cS_api_Member p0)))), (2, .t (.d (.lit (.string ⟨⟨p2⟩⟩)))), (9, .t (.d (.lit (.string ⟨⟨x10⟩⟩)))), (10, .t (.d (.lit (.int .i64 x12)))), (HK, .hp (hpA w0))]) (fun (_ : Unit) => m_role_Step_j3 p0 p2 x10 x12 = some r) ?_ ?_
      ·
       refine c_block ?_
       refine c_seq ?_
       refine c_seq ?_
       refine c_sr ?_
       refine o_s (.t (.d (.lit (.bool (x12 == 0))))) (g0 rfl) rfl rfl rfl ?_
       refine o_s (.t (.d (.lit (.bool (x12 == 0))))) (g0 rfl) rfl rfl rfl ?_
       refine o_nil ?_
       repeat (first | refine k1 ?_ | refine k4 ?_)
       rcases bif_some h with ⟨h25, h⟩ | ⟨h25, h⟩
       ·
        refine c_t h25 rfl ?_
        refine c_exit ?_
        repeat (first | refine k1 ?_ | refine k2 ?_ | refine k3 ?_ | refine k4 ?_ | refine k5 ?_ | refine k6 ?_ | refine k7 rfl ?_)
        exact ⟨(), [], h, rfl, ⟨.inr ⟨_, rfl, pure_hpA _⟩, by (repeat (first | exact ObP.nil | refine ObP.cons (.inl rfl) ?_ | refine ObP.cons (.inr (fun _ => rfl)) ?_ | refine ObP.cons (.inr (ob_box (fl_noPt _ _))) ?_ | refine ObP.cons (.inr (ob_gb _ _)) ?_))⟩, ⟨(.refl _), ⟨(.refl _), ⟨(.refl _), ⟨(.refl _), ⟨(.refl _), trivial⟩⟩⟩⟩⟩, rfl⟩
       ·
        refine c_f h25 rfl ?_
        refine c_skip ?_
        repeat (first | refine k1 ?_ | refine k4 ?_)
        refine c_seq ?_
        refine c_sr ?_
        refine o_s (.t (.d (.lit (.bool (x12 == 1))))) (g0 rfl) rfl rfl rfl ?_
        refine o_s (.t (.d (.lit (.bool (x12 == 1))))) (g0 rfl) rfl rfl rfl ?_
        refine o_nil ?_
        repeat (first | refine k1 ?_ | refine k4 ?_)
        rcases bif_some h with ⟨h26, h⟩ | ⟨h26, h⟩
        ·
         refine c_t h26 rfl ?_
         refine c_exit ?_
         repeat (first | refine k1 ?_ | refine k2 ?_ | refine k3 ?_ | refine k4 ?_ | refine k5 ?_ | refine k6 ?_ | refine k7 rfl ?_)
         exact ⟨(), [], h, rfl, ⟨.inr ⟨_, rfl, pure_hpA _⟩, by (repeat (first | exact ObP.nil | refine ObP.cons (.inl rfl) ?_ | refine ObP.cons (.inr (fun _ => rfl)) ?_ | refine ObP.cons (.inr (ob_box (fl_noPt _ _))) ?_ | refine ObP.cons (.inr (ob_gb _ _)) ?_))⟩, ⟨(.refl _), ⟨(.refl _), ⟨(.refl _), ⟨(.refl _), ⟨(.refl _), trivial⟩⟩⟩⟩⟩, rfl⟩
        ·
         refine c_f h26 rfl ?_
         refine c_skip ?_
         repeat (first | refine k1 ?_ | refine k4 ?_)
         refine c_sr ?_
         refine o_s (.t (.d (.lit (.bool (x12 == 2))))) (g0 rfl) rfl rfl rfl ?_
         refine o_s (.t (.d (.lit (.bool (x12 == 2))))) (g0 rfl) rfl rfl rfl ?_
         refine o_nil ?_
         repeat (first | refine k1 ?_ | refine k4 ?_)
         rcases bif_some h with ⟨h27, h⟩ | ⟨h27, h⟩
         ·
          refine c_t h27 rfl ?_
          refine c_exit ?_
          repeat (first | refine k1 ?_ | refine k2 ?_ | refine k3 ?_ | refine k4 ?_ | refine k5 ?_ | refine k6 ?_ | refine k7 rfl ?_)
          exact ⟨(), [], h, rfl, ⟨.inr ⟨_, rfl, pure_hpA _⟩, by (repeat (first | exact ObP.nil | refine ObP.cons (.inl rfl) ?_ | refine ObP.cons (.inr (fun _ => rfl)) ?_ | refine ObP.cons (.inr (ob_box (fl_noPt _ _))) ?_ | refine ObP.cons (.inr (ob_gb _ _)) ?_))⟩, ⟨(.refl _), ⟨(.refl _), ⟨(.refl _), ⟨(.refl _), ⟨(.refl _), trivial⟩⟩⟩⟩⟩, rfl⟩
         ·
          refine c_f h27 rfl ?_
          refine c_skip ?_
          repeat (first | refine k1 ?_ | refine k4 ?_)
          refine c_exit ?_
          repeat (first | refine k1 ?_ | refine k2 ?_ | refine k3 ?_ | refine k4 ?_ | refine k5 ?_ | refine k6 ?_ | refine k7 rfl ?_)
          exact ⟨(), [], h, rfl, ⟨.inr ⟨_, rfl, pure_hpA _⟩, by (repeat (first | exact ObP.nil | refine ObP.cons (.inl rfl) ?_ | refine ObP.cons (.inr (fun _ => rfl)) ?_ | refine ObP.cons (.inr (ob_box (fl_noPt _ _))) ?_ | refine ObP.cons (.inr (ob_gb _ _)) ?_))⟩, ⟨(.refl _), ⟨(.refl _), ⟨(.refl _), ⟨(.refl _), ⟨(.refl _), trivial⟩⟩⟩⟩⟩, rfl⟩
      ·
       rintro ⟨⟩ h
       refine c_sr ?_
       refine o_s (.t (.d (.seq 2 (List.map cS_api_Member p0)))) (g0 rfl) rfl rfl rfl ?_
       refine o_s (.t (.d (.lit (.string ⟨⟨p2⟩⟩)))) (g0 rfl) rfl rfl rfl ?_
       refine o_s (.t (.d (.lit (.string ⟨⟨x10⟩⟩)))) (g0 rfl) rfl rfl rfl ?_
       obtain ⟨x23, h24, h⟩ := bind_some h
       refine o_of (e := [(HK, .hp (hpA w0)), (43, .tup [.d (.seq 2 (List.map cS_api_Member x23.1)), .d (.lit (.int .i64 x23.2))])]) (g0 rfl) (h_call (Mk.refl _) rfl (σ := []) (fr := []) rfl rfl rfl rfl rfl rfl rfl (fch_role_Revoke _ _ _ w0 _ h24) (pure_hpA _) (pure_hpA _) rfl rfl rfl rfl (.cons (.plain (.refl _) rfl) (.cons (.plain (.refl _) rfl) (.cons (.plain (.refl _) rfl) .nil))) rfl (.tup (.cons (.flat rfl) (.cons (.flat rfl) .nil)))) rfl ?_
       refine o_s (.tup [.d (.seq 2 (List.map cS_api_Member x23.1)), .d (.lit (.int .i64 x23.2))]) (g0 rfl) rfl rfl rfl ?_
       refine o_s (.t (.d (.seq 2 (List.map cS_api_Member x23.1)))) (g0 rfl) rfl rfl rfl ?_
       refine o_s (.t (.d (.lit (.int .i64 x23.2)))) (g0 rfl) rfl rfl rfl ?_
       refine o_s (.t (.d (.lit (.int .i64 x23.2)))) (g0 rfl) rfl rfl rfl ?_
       refine o_nil ?_
       repeat (first | refine k1 ?_ | refine k4 ?_)
       refine c_exit ?_
       repeat (first | refine k1 ?_ | refine k2 ?_ | refine k3 ?_ | refine k4 ?_ | refine k5 ?_ | refine k6 ?_ | refine k7 rfl ?_)
       exact ⟨x23.2, [], h, rfl, ⟨.inr ⟨_, rfl, pure_hpA _⟩, by (repeat (first | exact ObP.nil | refine ObP.cons (.inl rfl) ?_ | refine ObP.cons (.inr (fun _ => rfl)) ?_ | refine ObP.cons (.inr (ob_box (fl_noPt _ _))) ?_ | refine ObP.cons (.inr (ob_gb _ _)) ?_))⟩, ⟨(.refl _), ⟨(.refl _), ⟨(.refl _), trivial⟩⟩⟩, rfl⟩
     ·
      rintro ⟨⟩ h
      refine c_seq ?_
      refine c_sr ?_
      refine o_s (.t (.d (.seq 2 (List.map cS_api_Member p0)))) (g0 rfl) rfl rfl rfl ?_
      refine o_s (.t (.d (.lit (.string ⟨⟨x10⟩⟩)))) (g0 rfl) rfl rfl rfl ?_
      obtain ⟨x16, h17, h⟩ := bind_some h
      refine o_ca (fc_role_at _ _ _ h17) (g0 rfl) rfl rfl rfl rfl rfl rfl rfl (.cons (.refl _) (.cons (.refl _) .nil)) rfl rfl ?_
      refine o_s (.t (.d (.lit (.bool (decide (x16 < 0)))))) (g0 rfl) rfl rfl rfl ?_
      refine o_nil ?_
      repeat (first | refine k1 ?_ | refine k4 ?_)
      rcases bif_some h with ⟨h18, h⟩ | ⟨h18, h⟩
      ·
       refine c_t h18 rfl ?_
       refine c_region ?_
       refine o_s (.t (.d (.seq 2 (List.map cS_api_Member p0)))) (g0 rfl) rfl rfl rfl ?_
       refine o_s (.t (.d (.lit (.string ⟨⟨p2⟩⟩)))) (g0 rfl) rfl rfl rfl ?_
       refine o_s (.t (.d (.lit (.string ⟨⟨x10⟩⟩)))) (g0 rfl) rfl rfl rfl ?_
       refine o_s (.t (.d (.lit (.int .i64 x12)))) (g0 rfl) rfl rfl rfl ?_
       obtain ⟨x19, h20, h⟩ := bind_some h
       refine o_of (e := [(HK, .hp (hpA w0)), (55, .tup [.d (.seq 2 (List.map cS_api_Member x19.1)), .d (.lit (.int .i64 x19.2))])]) (g0 rfl) (h_call (Mk.refl _) rfl (σ := []) (fr := []) rfl rfl rfl rfl rfl rfl rfl (fch_role_Share _ _ _ _ w0 _ h20) (pure_hpA _) (pure_hpA _) rfl rfl rfl rfl (.cons (.plain (.refl _) rfl) (.cons (.plain (.refl _) rfl) (.cons (.plain (.refl _) rfl) (.cons (.plain (.refl _) rfl) .nil)))) rfl (.tup (.cons (.flat rfl) (.cons (.flat rfl) .nil)))) rfl ?_
       refine o_s (.tup [.d (.seq 2 (List.map cS_api_Member x19.1)), .d (.lit (.int .i64 x19.2))]) (g0 rfl) rfl rfl rfl ?_
       refine o_s (.t (.d (.seq 2 (List.map cS_api_Member x19.1)))) (g0 rfl) rfl rfl rfl ?_
       refine o_s (.t (.d (.lit (.int .i64 x19.2)))) (g0 rfl) rfl rfl rfl ?_
       refine o_s (.t (.d (.lit (.int .i64 x19.2)))) (g0 rfl) rfl rfl rfl ?_
       refine o_nil ?_
       repeat (first | refine k1 ?_ | refine k4 ?_)
       refine c_exit ?_
       repeat (first | refine k1 ?_ | refine k2 ?_ | refine k3 ?_ | refine k4 ?_ | refine k5 ?_ | refine k6 ?_ | refine k7 rfl ?_)
       exact ⟨x19.2, [], h, rfl, ⟨.inr ⟨_, rfl, pure_hpA _⟩, by (repeat (first | exact ObP.nil | refine ObP.cons (.inl rfl) ?_ | refine ObP.cons (.inr (fun _ => rfl)) ?_ | refine ObP.cons (.inr (ob_box (fl_noPt _ _))) ?_ | refine ObP.cons (.inr (ob_gb _ _)) ?_))⟩, ⟨(.refl _), ⟨(.refl _), ⟨(.refl _), trivial⟩⟩⟩, rfl⟩
      ·
       refine c_f h18 rfl ?_
       refine c_region ?_
       refine o_s (.t (.d (.seq 2 (List.map cS_api_Member p0)))) (g0 rfl) rfl rfl rfl ?_
       refine o_s (.t (.d (.lit (.string ⟨⟨p2⟩⟩)))) (g0 rfl) rfl rfl rfl ?_
       refine o_s (.t (.d (.lit (.string ⟨⟨x10⟩⟩)))) (g0 rfl) rfl rfl rfl ?_
       refine o_s (.t (.d (.lit (.int .i64 x12)))) (g0 rfl) rfl rfl rfl ?_
       obtain ⟨x21, h22, h⟩ := bind_some h
       refine o_of (e := [(HK, .hp (hpA w0)), (63, .tup [.d (.seq 2 (List.map cS_api_Member x21.1)), .d (.lit (.int .i64 x21.2))])]) (g0 rfl) (h_call (Mk.refl _) rfl (σ := []) (fr := []) rfl rfl rfl rfl rfl rfl rfl (fch_role_Change _ _ _ _ w0 _ h22) (pure_hpA _) (pure_hpA _) rfl rfl rfl rfl (.cons (.plain (.refl _) rfl) (.cons (.plain (.refl _) rfl) (.cons (.plain (.refl _) rfl) (.cons (.plain (.refl _) rfl) .nil)))) rfl (.tup (.cons (.flat rfl) (.cons (.flat rfl) .nil)))) rfl ?_
       refine o_s (.tup [.d (.seq 2 (List.map cS_api_Member x21.1)), .d (.lit (.int .i64 x21.2))]) (g0 rfl) rfl rfl rfl ?_
       refine o_s (.t (.d (.seq 2 (List.map cS_api_Member x21.1)))) (g0 rfl) rfl rfl rfl ?_
       refine o_s (.t (.d (.lit (.int .i64 x21.2)))) (g0 rfl) rfl rfl rfl ?_
       refine o_s (.t (.d (.lit (.int .i64 x21.2)))) (g0 rfl) rfl rfl rfl ?_
       refine o_nil ?_
       repeat (first | refine k1 ?_ | refine k4 ?_)
       refine c_exit ?_
       repeat (first | refine k1 ?_ | refine k2 ?_ | refine k3 ?_ | refine k4 ?_ | refine k5 ?_ | refine k6 ?_ | refine k7 rfl ?_)
       exact ⟨x21.2, [], h, rfl, ⟨.inr ⟨_, rfl, pure_hpA _⟩, by (repeat (first | exact ObP.nil | refine ObP.cons (.inl rfl) ?_ | refine ObP.cons (.inr (fun _ => rfl)) ?_ | refine ObP.cons (.inr (ob_box (fl_noPt _ _))) ?_ | refine ObP.cons (.inr (ob_gb _ _)) ?_))⟩, ⟨(.refl _), ⟨(.refl _), ⟨(.refl _), trivial⟩⟩⟩, rfl⟩
    ·
     rintro y14 h
     refine c_sr ?_
     refine o_s (.t (.d (.lit (.int .i64 x12)))) (g0 rfl) rfl rfl rfl ?_
     refine o_s (.t (.d (.lit (.bool (x12 == 0))))) (g0 rfl) rfl rfl rfl ?_
     refine o_s (.t (.d (.lit (.bool (x12 == 0))))) (g0 rfl) rfl rfl rfl ?_
     rcases bif_some h with ⟨h15, h⟩ | ⟨h15, h⟩
     ·
      refine o_s (.t (.d (.lit (.int .i64 y14)))) (gy rfl rfl rfl h15) rfl rfl rfl ?_
      refine o_s (.t (.d (.lit (.bool (y14 == 0))))) (gy rfl rfl rfl h15) rfl rfl rfl ?_
      refine o_pk (.t (.d (.lit (.bool (y14 == 0))))) (b := true) h15 (g0 rfl) rfl rfl rfl rfl rfl ?_
      refine o_s (.t (.d (.lit (.int .i64 y14)))) (g0 rfl) rfl rfl rfl ?_
      refine o_s (.t (.d (.lit (.bool (y14 == 0))))) (g0 rfl) rfl rfl rfl ?_
      refine o_s (.t (.d (.lit (.int .i64 y14)))) (g0 rfl) rfl rfl rfl ?_
      refine o_nil ?_
      repeat (first | refine k1 ?_ | refine k4 ?_)
      refine c_ret ?_
      repeat (first | refine k3 ?_ | refine k5 ?_)
      obtain rfl := Option.some.inj h
      exact ⟨⟨_, rfl, (.tup (.cons (.refl _) (.cons (.refl _) .nil)))⟩, trivial, rfl⟩
     ·
      refine o_skip rfl rfl rfl h15 rfl rfl ?_
      refine o_skip rfl rfl rfl h15 rfl rfl ?_
      refine o_pk (.t (.d (.lit (.bool false)))) (b := false) h15 (g0 rfl) rfl rfl rfl rfl rfl ?_
      refine o_s (.t (.d (.lit (.int .i64 y14)))) (g0 rfl) rfl rfl rfl ?_
      refine o_s (.t (.d (.lit (.bool false)))) (g0 rfl) rfl rfl rfl ?_
      refine o_s (.t (.d (.lit (.int .i64 y14)))) (g0 rfl) rfl rfl rfl ?_
      refine o_nil ?_
      repeat (first | refine k1 ?_ | refine k4 ?_)
      refine c_ret ?_
      repeat (first | refine k3 ?_ | refine k5 ?_)
      obtain rfl := Option.some.inj h
      exact ⟨⟨_, rfl, (.tup (.cons (.refl _) (.cons (.refl _) .nil)))⟩, trivial, rfl⟩

theorem fch_manifest_Follows (p0 : S_api_Manifest) (p1 : (List UInt8)) (p2 : S_api_Manifest) (w0 : Hp) (r : Int) (h : m_manifest_Follows p0 p1 p2 = some r) : FCH Try.prog 6 [.t (.agg [.lit (.string ⟨⟨p0.Folder⟩⟩), .lit (.int .i64 p0.Seq), .seq 1 (bytesD p0.Prev), .lit (.string ⟨⟨p0.Parent⟩⟩), .seq 2 (List.map cS_api_Member p0.Members), .lit (.int .i64 p0.Cut), .lit (.bool p0.Gone), .lit (.string ⟨⟨p0.By⟩⟩)]), .t (.d (.seq 1 (bytesD p1))), .t (.agg [.lit (.string ⟨⟨p2.Folder⟩⟩), .lit (.int .i64 p2.Seq), .seq 1 (bytesD p2.Prev), .lit (.string ⟨⟨p2.Parent⟩⟩), .seq 2 (List.map cS_api_Member p2.Members), .lit (.int .i64 p2.Cut), .lit (.bool p2.Gone), .lit (.string ⟨⟨p2.By⟩⟩)])] [] [] (hpA w0) (hpA w0) (.t (.d (.lit (.int .i64 r)))) := by
 refine fch_mk (rs := [.tmp 6]) (n := 125) [] Try.func6 rfl rfl (Nat.le_of_ble_eq_true rfl) rfl (pins := []) rfl (L := [(HK, .hp (hpA w0)), (0, .t (.agg [.lit (.string ⟨⟨p0.Folder⟩⟩), .lit (.int .i64 p0.Seq), .seq 1 (bytesD p0.Prev), .lit (.string ⟨⟨p0.Parent⟩⟩), .seq 2 (List.map cS_api_Member p0.Members), .lit (.int .i64 p0.Cut), .lit (.bool p0.Gone), .lit (.string ⟨⟨p0.By⟩⟩)])), (1, .t (.d (.seq 1 (bytesD p1)))), (2, .t (.agg [.lit (.string ⟨⟨p2.Folder⟩⟩), .lit (.int .i64 p2.Seq), .seq 1 (bytesD p2.Prev), .lit (.string ⟨⟨p2.Parent⟩⟩), .seq 2 (List.map cS_api_Member p2.Members), .lit (.int .i64 p2.Cut), .lit (.bool p2.Gone), .lit (.string ⟨⟨p2.By⟩⟩)]))]) rfl ?_
 refine c_sr ?_
 refine o_s (.box [.d (.lit (.string ⟨⟨p0.Folder⟩⟩)), .d (.lit (.int .i64 p0.Seq)), .d (.seq 1 (bytesD p0.Prev)), .d (.lit (.string ⟨⟨p0.Parent⟩⟩)), .d (.seq 2 (List.map cS_api_Member p0.Members)), .d (.lit (.int .i64 p0.Cut)), .d (.lit (.bool p0.Gone)), .d (.lit (.string ⟨⟨p0.By⟩⟩))]) (g0 rfl) rfl rfl rfl ?_
 refine o_s (.box [.d (.lit (.string ⟨⟨p2.Folder⟩⟩)), .d (.lit (.int .i64 p2.Seq)), .d (.seq 1 (bytesD p2.Prev)), .d (.lit (.string ⟨⟨p2.Parent⟩⟩)), .d (.seq 2 (List.map cS_api_Member p2.Members)), .d (.lit (.int .i64 p2.Cut)), .d (.lit (.bool p2.Gone)), .d (.lit (.string ⟨⟨p2.By⟩⟩))]) (g0 rfl) rfl rfl rfl ?_
 refine o_s (.t (.d (.lit (.int .i64 0)))) (g0 rfl) rfl rfl rfl ?_
 refine o_nil ?_
 repeat (first | refine k1 ?_ | refine k4 ?_)
 refine c_sr ?_
 refine o_s (.ref 3 4) (g0 rfl) rfl rfl rfl ?_
 refine o_s (.t (.d (.seq 2 (List.map cS_api_Member p0.Members)))) (g0 rfl) rfl rfl rfl ?_
 refine o_s (.ref 5 4) (g0 rfl) rfl rfl rfl ?_
 refine o_s (.t (.d (.seq 2 (List.map cS_api_Member p2.Members)))) (g0 rfl) rfl rfl rfl ?_
 obtain ⟨x1, h2, h⟩ := bind_some h
 refine o_ca (fc_slices_Equal_Member _ _ _ h2) (g0 rfl) rfl rfl rfl rfl rfl rfl rfl (.cons (.refl _) (.cons (.refl _) .nil)) rfl rfl ?_
 refine o_s (.t (.d (.lit (.bool x1)))) (g0 rfl) rfl rfl rfl ?_
 refine o_nil ?_
 repeat (first | refine k1 ?_ | refine k4 ?_)
 refine c_seq ?_
 refine c_block ?_
 refine c_cutH (fun (y3 : Bool) => [(1, .t (.d (.seq 1 (bytesD p1)))), (3, .box [.d (.lit (.string ⟨⟨p0.Folder⟩⟩)), .d (.lit (.int .i64 p0.Seq)), .d (.seq 1 (bytesD p0.Prev)), .d (.lit (.string ⟨⟨p0.Parent⟩⟩)), .d (.seq 2 (List.map cS_api_Member p0.Members)), .d (.lit (.int .i64 p0.Cut)), .d (.lit (.bool p0.Gone)), .d (.lit (.string ⟨⟨p0.By⟩⟩))]), (5, .box [.d (.lit (.string ⟨⟨p2.Folder⟩⟩)), .d (.lit (.int .i64 p2.Seq)), .d (.seq 1 (bytesD p2.Prev)), .d (.lit (.string ⟨⟨p2.Parent⟩⟩)), .d (.seq 2 (List.map cS_api_Member p2.Members)), .d (.lit (.int .i64 p2.Cut)), .d (.lit (.bool p2.Gone)), .d (.lit (.string ⟨⟨p2.By⟩⟩))]), (7, .t (.d (.lit (.bool x1)))), (15, .t (.d (.lit (.bool y3)))), (HK, .hp (hpA w0))]) (fun (y3 : Bool) => m_manifest_Follows_j1 p0 p2 x1 p1 y3 = some r) ?_ ?_
 ·
  refine c_region ?_
  refine o_s (.t (.agg [.lit (.string ⟨⟨p0.Folder⟩⟩), .lit (.int .i64 p0.Seq), .seq 1 (bytesD p0.Prev), .lit (.string ⟨⟨p0.Parent⟩⟩), .seq 2 (List.map cS_api_Member p0.Members), .lit (.int .i64 p0.Cut), .lit (.bool p0.Gone), .lit (.string ⟨⟨p0.By⟩⟩)])) (g0 rfl) rfl rfl rfl ?_
  obtain ⟨x32, h33, h⟩ := bind_some h
  refine o_ca (fc_manifest_may _ _ h33) (g0 rfl) rfl rfl rfl rfl rfl rfl rfl (.cons (.refl _) .nil) rfl rfl ?_
  refine o_s (.t (.d (.lit (.bool (!x32))))) (g0 rfl) rfl rfl rfl ?_
  refine o_s (.t (.d (.lit (.bool (!x32))))) (g0 rfl) rfl rfl rfl ?_
  rcases bif_some h with ⟨h34, h⟩ | ⟨h34, h⟩
  ·
   refine o_skip rfl rfl rfl h34 rfl rfl ?_
   refine o_skip rfl rfl rfl h34 rfl rfl ?_
   refine o_skip rfl rfl rfl h34 rfl rfl ?_
   refine o_pk (.t (.d (.lit (.bool true)))) (b := true) h34 (g0 rfl) rfl rfl rfl rfl rfl ?_
   refine o_s (.t (.d (.lit (.bool true)))) (g0 rfl) rfl rfl rfl ?_
   refine o_nil ?_
   repeat (first | refine k1 ?_ | refine k4 ?_)
   exact ⟨true, [], h, rfl, ⟨.inr ⟨_, rfl, pure_hpA _⟩, by (repeat (first | exact ObP.nil | refine ObP.cons (.inl rfl) ?_ | refine ObP.cons (.inr (fun _ => rfl)) ?_ | refine ObP.cons (.inr (ob_box (fl_noPt _ _))) ?_ | refine ObP.cons (.inr (ob_gb _ _)) ?_))⟩, ⟨(.refl _), ⟨(.refl _), ⟨(.refl _), ⟨(.refl _), ⟨(.refl _), ⟨(.refl _), trivial⟩⟩⟩⟩⟩⟩, rfl⟩
  ·
   refine o_s (.t (.agg [.lit (.string ⟨⟨p2.Folder⟩⟩), .lit (.int .i64 p2.Seq), .seq 1 (bytesD p2.Prev), .lit (.string ⟨⟨p2.Parent⟩⟩), .seq 2 (List.map cS_api_Member p2.Members), .lit (.int .i64 p2.Cut), .lit (.bool p2.Gone), .lit (.string ⟨⟨p2.By⟩⟩)])) (gy rfl rfl rfl h34) rfl rfl rfl ?_
   obtain ⟨x35, h36, h⟩ := bind_some h
   refine o_ca (fc_manifest_may _ _ h36) (gy rfl rfl rfl h34) rfl rfl rfl rfl rfl rfl rfl (.cons (.refl _) .nil) rfl rfl ?_
   refine o_s (.t (.d (.lit (.bool (!x35))))) (gy rfl rfl rfl h34) rfl rfl rfl ?_
   refine o_pk (.t (.d (.lit (.bool (!x35))))) (b := false) h34 (g0 rfl) rfl rfl rfl rfl rfl ?_
   refine o_s (.t (.d (.lit (.bool (!x35))))) (g0 rfl) rfl rfl rfl ?_
   refine o_nil ?_
   repeat (first | refine k1 ?_ | refine k4 ?_)
   exact ⟨(!x35), [], h, rfl, ⟨.inr ⟨_, rfl, pure_hpA _⟩, by (repeat (first | exact ObP.nil | refine ObP.cons (.inl rfl) ?_ | refine ObP.cons (.inr (fun _ => rfl)) ?_ | refine ObP.cons (.inr (ob_box (fl_noPt _ _))) ?_ | refine ObP.cons (.inr (ob_gb _ _)) ?_))⟩, ⟨(.refl _), ⟨(.refl _), ⟨(.refl _), ⟨(.refl _), ⟨(.refl _), ⟨(.refl _), trivial⟩⟩⟩⟩⟩⟩, rfl⟩
 ·
  rintro y3 h
  rcases bif_some h with ⟨h4, h⟩ | ⟨h4, h⟩
  ·
   refine c_t h4 rfl ?_
   refine c_sr ?_
   refine o_s (.t (.d (.lit (.int .i64 2)))) (g0 rfl) rfl rfl rfl ?_
   refine o_nil ?_
   repeat (first | refine k1 ?_ | refine k4 ?_)
   refine c_ret ?_
   repeat (first | refine k3 ?_ | refine k5 ?_)
   obtain rfl := Option.some.inj h
   exact ⟨⟨_, rfl, (.refl _)⟩, trivial, rfl⟩
  ·
   refine c_f h4 rfl ?_
   refine c_cutH (fun (y5 : Bool) => [(3, .box [.d (.lit (.string ⟨⟨p0.Folder⟩⟩)), .d (.lit (.int .i64 p0.Seq)), .d (.seq 1 (bytesD p0.Prev)), .d (.lit (.string ⟨⟨p0.Parent⟩⟩)), .d (.seq 2 (List.map cS_api_Member p0.Members)), .d (.lit (.int .i64 p0.Cut)), .d (.lit (.bool p0.Gone)), .d (.lit (.string ⟨⟨p0.By⟩⟩))]), (5, .box [.d (.lit (.string ⟨⟨p2.Folder⟩⟩)), .d (.lit (.int .i64 p2.Seq)), .d (.seq 1 (bytesD p2.Prev)), .d (.lit (.string ⟨⟨p2.Parent⟩⟩)), .d (.seq 2 (List.map cS_api_Member p2.Members)), .d (.lit (.int .i64 p2.Cut)), .d (.lit (.bool p2.Gone)), .d (.lit (.string ⟨⟨p2.By⟩⟩))]), (7, .t (.d (.lit (.bool x1)))), (24, .t (.d (.lit (.bool y5)))), (HK, .hp (hpA w0))]) (fun (y5 : Bool) => m_manifest_Follows_j2 p2 x1 p0 y5 = some r) ?_ ?_
   ·
    refine c_region ?_
    refine o_s (.ref 3 6) (g0 rfl) rfl rfl rfl ?_
    refine o_s (.t (.d (.lit (.bool p0.Gone)))) (g0 rfl) rfl rfl rfl ?_
    refine o_s (.t (.d (.lit (.bool p0.Gone)))) (g0 rfl) rfl rfl rfl ?_
    rcases bif_some h with ⟨h27, h⟩ | ⟨h27, h⟩
    ·
     refine o_skip rfl rfl rfl h27 rfl rfl ?_
     refine o_skip rfl rfl rfl h27 rfl rfl ?_
     refine o_skip rfl rfl rfl h27 rfl rfl ?_
     refine o_skip rfl rfl rfl h27 rfl rfl ?_
     refine o_skip rfl rfl rfl h27 rfl rfl ?_
     refine o_pk (.t (.d (.lit (.bool true)))) (b := true) h27 (g0 rfl) rfl rfl rfl rfl rfl ?_
     refine o_s (.t (.d (.lit (.bool true)))) (g0 rfl) rfl rfl rfl ?_
     refine o_skip rfl rfl rfl rfl rfl rfl ?_
     refine o_skip rfl rfl rfl rfl rfl rfl ?_
     refine o_skip rfl rfl rfl rfl rfl rfl ?_
     refine o_skip rfl rfl rfl rfl rfl rfl ?_
     refine o_skip rfl rfl rfl rfl rfl rfl ?_
     refine o_skip rfl rfl rfl rfl rfl rfl ?_
     refine o_pk (.t (.d (.lit (.bool true)))) (b := true) rfl (g0 rfl) rfl rfl rfl rfl rfl ?_
     refine o_s (.t (.d (.lit (.bool true)))) (g0 rfl) rfl rfl rfl ?_
     refine o_skip rfl rfl rfl rfl rfl rfl ?_
     refine o_skip rfl rfl rfl rfl rfl rfl ?_
     refine o_skip rfl rfl rfl rfl rfl rfl ?_
     refine o_skip rfl rfl rfl rfl rfl rfl ?_
     refine o_skip rfl rfl rfl rfl rfl rfl ?_
     refine o_pk (.t (.d (.lit (.bool true)))) (b := true) rfl (g0 rfl) rfl rfl rfl rfl rfl ?_
     refine o_s (.t (.d (.lit (.bool true)))) (g0 rfl) rfl rfl rfl ?_
     refine o_nil ?_
     repeat (first | refine k1 ?_ | refine k4 ?_)
     exact ⟨true, [], h, rfl, ⟨.inr ⟨_, rfl, pure_hpA _⟩, by (repeat (first | exact ObP.nil | refine ObP.cons (.inl rfl) ?_ | refine ObP.cons (.inr (fun _ => rfl)) ?_ | refine ObP.cons (.inr (ob_box (fl_noPt _ _))) ?_ | refine ObP.cons (.inr (ob_gb _ _)) ?_))⟩, ⟨(.refl _), ⟨(.refl _), ⟨(.refl _), ⟨(.refl _), ⟨(.refl _), trivial⟩⟩⟩⟩⟩, rfl⟩
    ·
     refine o_s (.ref 5 0) (gy rfl rfl rfl h27) rfl rfl rfl ?_
     refine o_s (.t (.d (.lit (.string ⟨⟨p2.Folder⟩⟩)))) (gy rfl rfl rfl h27) rfl rfl rfl ?_
     refine o_s (.ref 3 0) (gy rfl rfl rfl h27) rfl rfl rfl ?_
     refine o_s (.t (.d (.lit (.string ⟨⟨p0.Folder⟩⟩)))) (gy rfl rfl rfl h27) rfl rfl rfl ?_
     refine o_c (gy rfl rfl rfl h27) rfl rfl rfl (congrArg (fun z => A.t (.d (.lit (.bool (!z))))) (str_beqL _ _)) trivial ?_
     refine o_pk (.t (.d (.lit (.bool (!(p2.Folder == p0.Folder)))))) (b := false) h27 (g0 rfl) rfl rfl rfl rfl rfl ?_
     refine o_s (.t (.d (.lit (.bool (!(p2.Folder == p0.Folder)))))) (g0 rfl) rfl rfl rfl ?_
     rcases bif_some h with ⟨h28, h⟩ | ⟨h28, h⟩
     ·
      refine o_skip rfl rfl rfl h28 rfl rfl ?_
      refine o_skip rfl rfl rfl h28 rfl rfl ?_
      refine o_skip rfl rfl rfl h28 rfl rfl ?_
      refine o_skip rfl rfl rfl h28 rfl rfl ?_
      refine o_skip rfl rfl rfl h28 rfl rfl ?_
      refine o_skip rfl rfl rfl h28 rfl rfl ?_
      refine o_pk (.t (.d (.lit (.bool true)))) (b := true) h28 (g0 rfl) rfl rfl rfl rfl rfl ?_
      refine o_s (.t (.d (.lit (.bool true)))) (g0 rfl) rfl rfl rfl ?_
      refine o_skip rfl rfl rfl rfl rfl rfl ?_
      refine o_skip rfl rfl rfl rfl rfl rfl ?_
      refine o_skip rfl rfl rfl rfl rfl rfl ?_
      refine o_skip rfl rfl rfl rfl rfl rfl ?_
      refine o_skip rfl rfl rfl rfl rfl rfl ?_
      refine o_pk (.t (.d (.lit (.bool true)))) (b := true) rfl (g0 rfl) rfl rfl rfl rfl rfl ?_
      refine o_s (.t (.d (.lit (.bool true)))) (g0 rfl) rfl rfl rfl ?_
      refine o_nil ?_
      repeat (first | refine k1 ?_ | refine k4 ?_)
      exact ⟨true, [], h, rfl, ⟨.inr ⟨_, rfl, pure_hpA _⟩, by (repeat (first | exact ObP.nil | refine ObP.cons (.inl rfl) ?_ | refine ObP.cons (.inr (fun _ => rfl)) ?_ | refine ObP.cons (.inr (ob_box (fl_noPt _ _))) ?_ | refine ObP.cons (.inr (ob_gb _ _)) ?_))⟩, ⟨(.refl _), ⟨(.refl _), ⟨(.refl _), ⟨(.refl _), ⟨(.refl _), trivial⟩⟩⟩⟩⟩, rfl⟩
     ·
      refine o_s (.ref 5 1) (gy rfl rfl rfl h28) rfl rfl rfl ?_
      refine o_s (.t (.d (.lit (.int .i64 p2.Seq)))) (gy rfl rfl rfl h28) rfl rfl rfl ?_
      refine o_s (.ref 3 1) (gy rfl rfl rfl h28) rfl rfl rfl ?_
      refine o_s (.t (.d (.lit (.int .i64 p0.Seq)))) (gy rfl rfl rfl h28) rfl rfl rfl ?_
      refine o_s (.t (.d (.lit (.int .i64 (wi (p0.Seq + 1)))))) (gy rfl rfl rfl h28) rfl rfl rfl ?_
      refine o_s (.t (.d (.lit (.bool (p2.Seq != (wi (p0.Seq + 1))))))) (gy rfl rfl rfl h28) rfl rfl rfl ?_
      refine o_pk (.t (.d (.lit (.bool (p2.Seq != (wi (p0.Seq + 1))))))) (b := false) h28 (g0 rfl) rfl rfl rfl rfl rfl ?_
      refine o_s (.t (.d (.lit (.bool (p2.Seq != (wi (p0.Seq + 1))))))) (g0 rfl) rfl rfl rfl ?_
      rcases bif_some h with ⟨h29, h⟩ | ⟨h29, h⟩
      ·
       refine o_skip rfl rfl rfl h29 rfl rfl ?_
       refine o_skip rfl rfl rfl h29 rfl rfl ?_
       refine o_skip rfl rfl rfl h29 rfl rfl ?_
       refine o_skip rfl rfl rfl h29 rfl rfl ?_
       refine o_skip rfl rfl rfl h29 rfl rfl ?_
       refine o_pk (.t (.d (.lit (.bool true)))) (b := true) h29 (g0 rfl) rfl rfl rfl rfl rfl ?_
       refine o_s (.t (.d (.lit (.bool true)))) (g0 rfl) rfl rfl rfl ?_
       refine o_nil ?_
       repeat (first | refine k1 ?_ | refine k4 ?_)
       exact ⟨true, [], h, rfl, ⟨.inr ⟨_, rfl, pure_hpA _⟩, by (repeat (first | exact ObP.nil | refine ObP.cons (.inl rfl) ?_ | refine ObP.cons (.inr (fun _ => rfl)) ?_ | refine ObP.cons (.inr (ob_box (fl_noPt _ _))) ?_ | refine ObP.cons (.inr (ob_gb _ _)) ?_))⟩, ⟨(.refl _), ⟨(.refl _), ⟨(.refl _), ⟨(.refl _), ⟨(.refl _), trivial⟩⟩⟩⟩⟩, rfl⟩
      ·
       refine o_s (.ref 5 2) (gy rfl rfl rfl h29) rfl rfl rfl ?_
       refine o_s (.t (.d (.seq 1 (bytesD p2.Prev)))) (gy rfl rfl rfl h29) rfl rfl rfl ?_
       refine o_s (.t (.d (.seq 1 (bytesD p1)))) (gy rfl rfl rfl h29) rfl rfl rfl ?_
       obtain ⟨x30, h31, h⟩ := bind_some h
       refine o_ca (fc_bytes_Equal _ _ _ h31) (gy rfl rfl rfl h29) rfl rfl rfl rfl rfl rfl rfl (.cons (.refl _) (.cons (.refl _) .nil)) rfl rfl ?_
       refine o_s (.t (.d (.lit (.bool (!x30))))) (gy rfl rfl rfl h29) rfl rfl rfl ?_
       refine o_pk (.t (.d (.lit (.bool (!x30))))) (b := false) h29 (g0 rfl) rfl rfl rfl rfl rfl ?_
       refine o_s (.t (.d (.lit (.bool (!x30))))) (g0 rfl) rfl rfl rfl ?_
       refine o_nil ?_
       repeat (first | refine k1 ?_ | refine k4 ?_)
       exact ⟨(!x30), [], h, rfl, ⟨.inr ⟨_, rfl, pure_hpA _⟩, by (repeat (first | exact ObP.nil | refine ObP.cons (.inl rfl) ?_ | refine ObP.cons (.inr (fun _ => rfl)) ?_ | refine ObP.cons (.inr (ob_box (fl_noPt _ _))) ?_ | refine ObP.cons (.inr (ob_gb _ _)) ?_))⟩, ⟨(.refl _), ⟨(.refl _), ⟨(.refl _), ⟨(.refl _), ⟨(.refl _), trivial⟩⟩⟩⟩⟩, rfl⟩
   ·
    rintro y5 h
    rcases bif_some h with ⟨h6, h⟩ | ⟨h6, h⟩
    ·
     refine c_t h6 rfl ?_
     refine c_sr ?_
     refine o_s (.t (.d (.lit (.int .i64 11)))) (g0 rfl) rfl rfl rfl ?_
     refine o_nil ?_
     repeat (first | refine k1 ?_ | refine k4 ?_)
     refine c_ret ?_
     repeat (first | refine k3 ?_ | refine k5 ?_)
     obtain rfl := Option.some.inj h
     exact ⟨⟨_, rfl, (.refl _)⟩, trivial, rfl⟩
    ·
     refine c_f h6 rfl ?_
     refine c_sr ?_
     refine o_s (.ref 5 6) (g0 rfl) rfl rfl rfl ?_
     refine o_s (.t (.d (.lit (.bool p2.Gone)))) (g0 rfl) rfl rfl rfl ?_
     refine o_s (.t (.d (.lit (.bool p2.Gone)))) (g0 rfl) rfl rfl rfl ?_
     refine o_nil ?_
     repeat (first | refine k1 ?_ | refine k4 ?_)
     rcases bif_some h with ⟨h7, h⟩ | ⟨h7, h⟩
     ·
      refine c_t h7 rfl ?_
      refine c_seq ?_
      refine c_sr ?_
      refine o_s (.t (.d (.lit (.bool x1)))) (g0 rfl) rfl rfl rfl ?_
      refine o_s (.t (.d (.lit (.bool (!x1))))) (g0 rfl) rfl rfl rfl ?_
      refine o_s (.t (.d (.lit (.bool (!x1))))) (g0 rfl) rfl rfl rfl ?_
      rcases bif_some h with ⟨h8, h⟩ | ⟨h8, h⟩
      ·
       refine o_skip rfl rfl rfl h8 rfl rfl ?_
       refine o_skip rfl rfl rfl h8 rfl rfl ?_
       refine o_skip rfl rfl rfl h8 rfl rfl ?_
       refine o_skip rfl rfl rfl h8 rfl rfl ?_
       refine o_skip rfl rfl rfl h8 rfl rfl ?_
       refine o_pk (.t (.d (.lit (.bool true)))) (b := true) h8 (g0 rfl) rfl rfl rfl rfl rfl ?_
       refine o_s (.t (.d (.lit (.bool true)))) (g0 rfl) rfl rfl rfl ?_
       refine o_skip rfl rfl rfl rfl rfl rfl ?_
       refine o_skip rfl rfl rfl rfl rfl rfl ?_
       refine o_skip rfl rfl rfl rfl rfl rfl ?_
       refine o_skip rfl rfl rfl rfl rfl rfl ?_
       refine o_skip rfl rfl rfl rfl rfl rfl ?_
       refine o_pk (.t (.d (.lit (.bool true)))) (b := true) rfl (g0 rfl) rfl rfl rfl rfl rfl ?_
       refine o_nil ?_
       repeat (first | refine k1 ?_ | refine k4 ?_)
       refine c_t rfl rfl ?_
       refine c_sr ?_
       refine o_s (.t (.d (.lit (.int .i64 11)))) (g0 rfl) rfl rfl rfl ?_
       refine o_nil ?_
       repeat (first | refine k1 ?_ | refine k4 ?_)
       refine c_ret ?_
       repeat (first | refine k3 ?_ | refine k5 ?_)
       obtain rfl := Option.some.inj h
       exact ⟨⟨_, rfl, (.refl _)⟩, trivial, rfl⟩
      ·
       refine o_s (.ref 5 3) (gy rfl rfl rfl h8) rfl rfl rfl ?_
       refine o_s (.t (.d (.lit (.string ⟨⟨p2.Parent⟩⟩)))) (gy rfl rfl rfl h8) rfl rfl rfl ?_
       refine o_s (.ref 3 3) (gy rfl rfl rfl h8) rfl rfl rfl ?_
       refine o_s (.t (.d (.lit (.string ⟨⟨p0.Parent⟩⟩)))) (gy rfl rfl rfl h8) rfl rfl rfl ?_
       refine o_c (gy rfl rfl rfl h8) rfl rfl rfl (congrArg (fun z => A.t (.d (.lit (.bool (!z))))) (str_beqL _ _)) trivial ?_
       refine o_pk (.t (.d (.lit (.bool (!(p2.Parent == p0.Parent)))))) (b := false) h8 (g0 rfl) rfl rfl rfl rfl rfl ?_
       refine o_s (.t (.d (.lit (.bool (!(p2.Parent == p0.Parent)))))) (g0 rfl) rfl rfl rfl ?_
       rcases bif_some h with ⟨h9, h⟩ | ⟨h9, h⟩
       ·
        refine o_skip rfl rfl rfl h9 rfl rfl ?_
        refine o_skip rfl rfl rfl h9 rfl rfl ?_
        refine o_skip rfl rfl rfl h9 rfl rfl ?_
        refine o_skip rfl rfl rfl h9 rfl rfl ?_
        refine o_skip rfl rfl rfl h9 rfl rfl ?_
        refine o_pk (.t (.d (.lit (.bool true)))) (b := true) h9 (g0 rfl) rfl rfl rfl rfl rfl ?_
        refine o_nil ?_
        repeat (first | refine k1 ?_ | refine k4 ?_)
        refine c_t rfl rfl ?_
        refine c_sr ?_
        refine o_s (.t (.d (.lit (.int .i64 11)))) (g0 rfl) rfl rfl rfl ?_
        refine o_nil ?_
        repeat (first | refine k1 ?_ | refine k4 ?_)
        refine c_ret ?_
        repeat (first | refine k3 ?_ | refine k5 ?_)
        obtain rfl := Option.some.inj h
        exact ⟨⟨_, rfl, (.refl _)⟩, trivial, rfl⟩
       ·
        refine o_s (.ref 5 5) (gy rfl rfl rfl h9) rfl rfl rfl ?_
        refine o_s (.t (.d (.lit (.int .i64 p2.Cut)))) (gy rfl rfl rfl h9) rfl rfl rfl ?_
        refine o_s (.ref 3 5) (gy rfl rfl rfl h9) rfl rfl rfl ?_
        refine o_s (.t (.d (.lit (.int .i64 p0.Cut)))) (gy rfl rfl rfl h9) rfl rfl rfl ?_
        refine o_s (.t (.d (.lit (.bool (p2.Cut != p0.Cut))))) (gy rfl rfl rfl h9) rfl rfl rfl ?_
        refine o_pk (.t (.d (.lit (.bool (p2.Cut != p0.Cut))))) (b := false) h9 (g0 rfl) rfl rfl rfl rfl rfl ?_
        refine o_nil ?_
        repeat (first | refine k1 ?_ | refine k4 ?_)
        rcases bif_some h with ⟨h10, h⟩ | ⟨h10, h⟩
        ·
         refine c_t h10 rfl ?_
         refine c_sr ?_
         refine o_s (.t (.d (.lit (.int .i64 11)))) (g0 rfl) rfl rfl rfl ?_
         refine o_nil ?_
         repeat (first | refine k1 ?_ | refine k4 ?_)
         refine c_ret ?_
         repeat (first | refine k3 ?_ | refine k5 ?_)
         obtain rfl := Option.some.inj h
         exact ⟨⟨_, rfl, (.refl _)⟩, trivial, rfl⟩
        ·
         refine c_f h10 rfl ?_
         refine c_skip ?_
         repeat (first | refine k1 ?_ | refine k4 ?_)
         refine c_sr ?_
         refine o_s (.t (.agg [.lit (.string ⟨⟨p0.Folder⟩⟩), .lit (.int .i64 p0.Seq), .seq 1 (bytesD p0.Prev), .lit (.string ⟨⟨p0.Parent⟩⟩), .seq 2 (List.map cS_api_Member p0.Members), .lit (.int .i64 p0.Cut), .lit (.bool p0.Gone), .lit (.string ⟨⟨p0.By⟩⟩)])) (g0 rfl) rfl rfl rfl ?_
         refine o_s (.ref 5 7) (g0 rfl) rfl rfl rfl ?_
         refine o_s (.t (.d (.lit (.string ⟨⟨p2.By⟩⟩)))) (g0 rfl) rfl rfl rfl ?_
         obtain ⟨x11, h12, h⟩ := bind_some h
         refine o_ca (fc_manifest_owner _ _ _ h12) (g0 rfl) rfl rfl rfl rfl rfl rfl rfl (.cons (.refl _) (.cons (.refl _) .nil)) rfl rfl ?_
         refine o_s (.t (.d (.lit (.int .i64 x11)))) (g0 rfl) rfl rfl rfl ?_
         refine o_nil ?_
         repeat (first | refine k1 ?_ | refine k4 ?_)
         refine c_ret ?_
         repeat (first | refine k3 ?_ | refine k5 ?_)
         obtain rfl := Option.some.inj h
         exact ⟨⟨_, rfl, (.refl _)⟩, trivial, rfl⟩
     ·
      refine c_f h7 rfl ?_
      refine c_sr ?_
      refine o_s (.ref 5 3) (g0 rfl) rfl rfl rfl ?_
      refine o_s (.t (.d (.lit (.string ⟨⟨p2.Parent⟩⟩)))) (g0 rfl) rfl rfl rfl ?_
      refine o_s (.ref 3 3) (g0 rfl) rfl rfl rfl ?_
      refine o_s (.t (.d (.lit (.string ⟨⟨p0.Parent⟩⟩)))) (g0 rfl) rfl rfl rfl ?_
      refine o_c (g0 rfl) rfl rfl rfl (congrArg (fun z => A.t (.d (.lit (.bool (!z))))) (str_beqL _ _)) trivial ?_
      refine o_s (.t (.d (.lit (.bool (!(p2.Parent == p0.Parent)))))) (g0 rfl) rfl rfl rfl ?_
      refine o_nil ?_
      repeat (first | refine k1 ?_ | refine k4 ?_)
      rcases bif_some h with ⟨h13, h⟩ | ⟨h13, h⟩
      ·
       refine c_t h13 rfl ?_
       refine c_seq ?_
       refine c_sr ?_
       refine o_s (.t (.d (.lit (.bool x1)))) (g0 rfl) rfl rfl rfl ?_
       refine o_s (.t (.d (.lit (.bool (!x1))))) (g0 rfl) rfl rfl rfl ?_
       refine o_s (.t (.d (.lit (.bool (!x1))))) (g0 rfl) rfl rfl rfl ?_
       rcases bif_some h with ⟨h14, h⟩ | ⟨h14, h⟩
       ·
        refine o_skip rfl rfl rfl h14 rfl rfl ?_
        refine o_skip rfl rfl rfl h14 rfl rfl ?_
        refine o_skip rfl rfl rfl h14 rfl rfl ?_
        refine o_skip rfl rfl rfl h14 rfl rfl ?_
        refine o_skip rfl rfl rfl h14 rfl rfl ?_
        refine o_pk (.t (.d (.lit (.bool true)))) (b := true) h14 (g0 rfl) rfl rfl rfl rfl rfl ?_
        refine o_nil ?_
        repeat (first | refine k1 ?_ | refine k4 ?_)
        refine c_t rfl rfl ?_
        refine c_sr ?_
        refine o_s (.t (.d (.lit (.int .i64 11)))) (g0 rfl) rfl rfl rfl ?_
        refine o_nil ?_
        repeat (first | refine k1 ?_ | refine k4 ?_)
        refine c_ret ?_
        repeat (first | refine k3 ?_ | refine k5 ?_)
        obtain rfl := Option.some.inj h
        exact ⟨⟨_, rfl, (.refl _)⟩, trivial, rfl⟩
       ·
        refine o_s (.ref 5 5) (gy rfl rfl rfl h14) rfl rfl rfl ?_
        refine o_s (.t (.d (.lit (.int .i64 p2.Cut)))) (gy rfl rfl rfl h14) rfl rfl rfl ?_
        refine o_s (.ref 5 1) (gy rfl rfl rfl h14) rfl rfl rfl ?_
        refine o_s (.t (.d (.lit (.int .i64 p2.Seq)))) (gy rfl rfl rfl h14) rfl rfl rfl ?_
        refine o_s (.t (.d (.lit (.bool (p2.Cut != p2.Seq))))) (gy rfl rfl rfl h14) rfl rfl rfl ?_
        refine o_pk (.t (.d (.lit (.bool (p2.Cut != p2.Seq))))) (b := false) h14 (g0 rfl) rfl rfl rfl rfl rfl ?_
        refine o_nil ?_
        repeat (first | refine k1 ?_ | refine k4 ?_)
        rcases bif_some h with ⟨h15, h⟩ | ⟨h15, h⟩
        ·
         refine c_t h15 rfl ?_
         refine c_sr ?_
         refine o_s (.t (.d (.lit (.int .i64 11)))) (g0 rfl) rfl rfl rfl ?_
         refine o_nil ?_
         repeat (first | refine k1 ?_ | refine k4 ?_)
         refine c_ret ?_
         repeat (first | refine k3 ?_ | refine k5 ?_)
         obtain rfl := Option.some.inj h
         exact ⟨⟨_, rfl, (.refl _)⟩, trivial, rfl⟩
        ·
         refine c_f h15 rfl ?_
         refine c_skip ?_
         repeat (first | refine k1 ?_ | refine k4 ?_)
         refine c_sr ?_
         refine o_s (.t (.agg [.lit (.string ⟨⟨p0.Folder⟩⟩), .lit (.int .i64 p0.Seq), .seq 1 (bytesD p0.Prev), .lit (.string ⟨⟨p0.Parent⟩⟩), .seq 2 (List.map cS_api_Member p0.Members), .lit (.int .i64 p0.Cut), .lit (.bool p0.Gone), .lit (.string ⟨⟨p0.By⟩⟩)])) (g0 rfl) rfl rfl rfl ?_
         refine o_s (.ref 5 7) (g0 rfl) rfl rfl rfl ?_
         refine o_s (.t (.d (.lit (.string ⟨⟨p2.By⟩⟩)))) (g0 rfl) rfl rfl rfl ?_
         obtain ⟨x16, h17, h⟩ := bind_some h
         refine o_ca (fc_manifest_owner _ _ _ h17) (g0 rfl) rfl rfl rfl rfl rfl rfl rfl (.cons (.refl _) (.cons (.refl _) .nil)) rfl rfl ?_
         refine o_s (.t (.d (.lit (.int .i64 x16)))) (g0 rfl) rfl rfl rfl ?_
         refine o_nil ?_
         repeat (first | refine k1 ?_ | refine k4 ?_)
         refine c_ret ?_
         repeat (first | refine k3 ?_ | refine k5 ?_)
         obtain rfl := Option.some.inj h
         exact ⟨⟨_, rfl, (.refl _)⟩, trivial, rfl⟩
      ·
       refine c_f h13 rfl ?_
       refine c_skip ?_
       repeat (first | refine k1 ?_ | refine k4 ?_)
       refine c_sr ?_
       refine o_s (.ref 3 4) (g0 rfl) rfl rfl rfl ?_
       refine o_s (.t (.d (.seq 2 (List.map cS_api_Member p0.Members)))) (g0 rfl) rfl rfl rfl ?_
       refine o_s (.ref 5 4) (g0 rfl) rfl rfl rfl ?_
       refine o_s (.t (.d (.seq 2 (List.map cS_api_Member p2.Members)))) (g0 rfl) rfl rfl rfl ?_
       refine o_s (.ref 5 7) (g0 rfl) rfl rfl rfl ?_
       refine o_s (.t (.d (.lit (.string ⟨⟨p2.By⟩⟩)))) (g0 rfl) rfl rfl rfl ?_
       obtain ⟨x18, h19, h⟩ := bind_some h
       refine o_of (e := [(HK, .hp (hpA w0)), (98, .tup [.d (.lit (.bool x18.1)), .d (.lit (.int .i64 x18.2))])]) (g0 rfl) (h_call (Mk.refl _) rfl (σ := []) (fr := []) rfl rfl rfl rfl rfl rfl rfl (fch_role_Step _ _ _ w0 _ h19) (pure_hpA _) (pure_hpA _) rfl rfl rfl rfl (.cons (.plain (.refl _) rfl) (.cons (.plain (.refl _) rfl) (.cons (.plain (.refl _) rfl) .nil))) rfl (.tup (.cons (.flat rfl) (.cons (.flat rfl) .nil)))) rfl ?_
       refine o_s (.tup [.d (.lit (.bool x18.1)), .d (.lit (.int .i64 x18.2))]) (g0 rfl) rfl rfl rfl ?_
       refine o_s (.t (.d (.lit (.bool x18.1)))) (g0 rfl) rfl rfl rfl ?_
       refine o_s (.t (.d (.lit (.int .i64 x18.2)))) (g0 rfl) rfl rfl rfl ?_
       refine o_s (.t (.d (.lit (.bool x18.1)))) (g0 rfl) rfl rfl rfl ?_
       refine o_s (.t (.d (.lit (.int .i64 x18.2)))) (g0 rfl) rfl rfl rfl ?_
       refine o_nil ?_
       repeat (first | refine k1 ?_ | refine k4 ?_)
       refine c_seq ?_
       refine c_block ?_
       refine c_sr ?_
       refine o_s (.t (.d (.lit (.int .i64 x18.2)))) (g0 rfl) rfl rfl rfl ?_
       refine o_s (.t (.d (.lit (.bool (x18.2 != 0))))) (g0 rfl) rfl rfl rfl ?_
       refine o_s (.t (.d (.lit (.bool (x18.2 != 0))))) (g0 rfl) rfl rfl rfl ?_
       refine o_nil ?_
       repeat (first | refine k1 ?_ | refine k4 ?_)
       rcases bif_some h with ⟨h20, h⟩ | ⟨h20, h⟩
       ·
        refine c_t h20 rfl ?_
        refine c_sr ?_
        refine o_s (.t (.d (.lit (.int .i64 x18.2)))) (g0 rfl) rfl rfl rfl ?_
        refine o_s (.t (.d (.lit (.int .i64 x18.2)))) (g0 rfl) rfl rfl rfl ?_
        refine o_nil ?_
        repeat (first | refine k1 ?_ | refine k4 ?_)
        refine c_ret ?_
        repeat (first | refine k3 ?_ | refine k5 ?_)
        obtain rfl := Option.some.inj h
        exact ⟨⟨_, rfl, (.refl _)⟩, trivial, rfl⟩
       ·
        refine c_f h20 rfl ?_
        refine c_sr ?_
        refine o_s (.t (.d (.lit (.bool x18.1)))) (g0 rfl) rfl rfl rfl ?_
        refine o_s (.t (.d (.lit (.bool x18.1)))) (g0 rfl) rfl rfl rfl ?_
        rcases bif_some h with ⟨h21, h⟩ | ⟨h21, h⟩
        ·
         refine o_s (.ref 5 5) (gy rfl rfl rfl h21) rfl rfl rfl ?_
         refine o_s (.t (.d (.lit (.int .i64 p2.Cut)))) (gy rfl rfl rfl h21) rfl rfl rfl ?_
         refine o_s (.ref 5 1) (gy rfl rfl rfl h21) rfl rfl rfl ?_
         refine o_s (.t (.d (.lit (.int .i64 p2.Seq)))) (gy rfl rfl rfl h21) rfl rfl rfl ?_
         refine o_s (.t (.d (.lit (.bool (p2.Cut != p2.Seq))))) (gy rfl rfl rfl h21) rfl rfl rfl ?_
         refine o_pk (.t (.d (.lit (.bool (p2.Cut != p2.Seq))))) (b := true) h21 (g0 rfl) rfl rfl rfl rfl rfl ?_
         refine o_s (.t (.d (.lit (.bool (p2.Cut != p2.Seq))))) (g0 rfl) rfl rfl rfl ?_
         rcases bif_some h with ⟨h22, h⟩ | ⟨h22, h⟩
         ·
          refine o_skip rfl rfl rfl h22 rfl rfl ?_
          refine o_skip rfl rfl rfl h22 rfl rfl ?_
          refine o_skip rfl rfl rfl h22 rfl rfl ?_
          refine o_un rfl rfl rfl rfl rfl ?_
          refine o_un rfl rfl rfl rfl rfl ?_
          refine o_un rfl rfl rfl rfl rfl ?_
          refine o_un rfl rfl rfl rfl rfl ?_
          refine o_un rfl rfl rfl rfl rfl ?_
          refine o_skip rfl rfl rfl h22 rfl rfl ?_
          refine o_pk (.t (.d (.lit (.bool true)))) (b := true) h22 (g0 rfl) rfl rfl rfl rfl rfl ?_
          refine o_s (.t (.d (.lit (.bool true)))) (g0 rfl) rfl rfl rfl ?_
          refine o_nil ?_
          repeat (first | refine k1 ?_ | refine k4 ?_)
          refine c_t rfl rfl ?_
          refine c_sr ?_
          refine o_s (.t (.d (.lit (.int .i64 11)))) (g0 rfl) rfl rfl rfl ?_
          refine o_nil ?_
          repeat (first | refine k1 ?_ | refine k4 ?_)
          refine c_ret ?_
          repeat (first | refine k3 ?_ | refine k5 ?_)
          obtain rfl := Option.some.inj h
          exact ⟨⟨_, rfl, (.refl _)⟩, trivial, rfl⟩
         ·
          refine o_s (.t (.d (.lit (.bool x18.1)))) (gy rfl rfl rfl h22) rfl rfl rfl ?_
          refine o_s (.t (.d (.lit (.bool (!x18.1))))) (gy rfl rfl rfl h22) rfl rfl rfl ?_
          refine o_s (.t (.d (.lit (.bool (!x18.1))))) (gy rfl rfl rfl h22) rfl rfl rfl ?_
          rcases bif_some h with ⟨h23, h⟩ | ⟨h23, h⟩
          ·
           refine o_s (.ref 5 5) (gy rfl rfl rfl h23) rfl rfl rfl ?_
           refine o_s (.t (.d (.lit (.int .i64 p2.Cut)))) (gy rfl rfl rfl h23) rfl rfl rfl ?_
           refine o_s (.ref 3 5) (gy rfl rfl rfl h23) rfl rfl rfl ?_
           refine o_s (.t (.d (.lit (.int .i64 p0.Cut)))) (gy rfl rfl rfl h23) rfl rfl rfl ?_
           refine o_s (.t (.d (.lit (.bool (p2.Cut != p0.Cut))))) (gy rfl rfl rfl h23) rfl rfl rfl ?_
           refine o_pk (.t (.d (.lit (.bool (p2.Cut != p0.Cut))))) (b := true) h23 (gy rfl rfl rfl h22) rfl rfl rfl rfl rfl ?_
           refine o_pk (.t (.d (.lit (.bool (p2.Cut != p0.Cut))))) (b := false) h22 (g0 rfl) rfl rfl rfl rfl rfl ?_
           refine o_s (.t (.d (.lit (.bool (p2.Cut != p0.Cut))))) (g0 rfl) rfl rfl rfl ?_
           refine o_nil ?_
           repeat (first | refine k1 ?_ | refine k4 ?_)
           rcases bif_some h with ⟨h24, h⟩ | ⟨h24, h⟩
           ·
            refine c_t h24 rfl ?_
            refine c_sr ?_
            refine o_s (.t (.d (.lit (.int .i64 11)))) (g0 rfl) rfl rfl rfl ?_
            refine o_nil ?_
            repeat (first | refine k1 ?_ | refine k4 ?_)
            refine c_ret ?_
            repeat (first | refine k3 ?_ | refine k5 ?_)
            obtain rfl := Option.some.inj h
            exact ⟨⟨_, rfl, (.refl _)⟩, trivial, rfl⟩
           ·
            refine c_f h24 rfl ?_
            refine c_skip ?_
            repeat (first | refine k1 ?_ | refine k4 ?_)
            refine c_sr ?_
            refine o_s (.t (.d (.lit (.int .i64 0)))) (g0 rfl) rfl rfl rfl ?_
            refine o_nil ?_
            repeat (first | refine k1 ?_ | refine k4 ?_)
            refine c_ret ?_
            repeat (first | refine k3 ?_ | refine k5 ?_)
            obtain rfl := Option.some.inj h
            exact ⟨⟨_, rfl, (.refl _)⟩, trivial, rfl⟩
          ·
           refine o_skip rfl rfl rfl h23 rfl rfl ?_
           refine o_skip rfl rfl rfl h23 rfl rfl ?_
           refine o_skip rfl rfl rfl h23 rfl rfl ?_
           refine o_skip rfl rfl rfl h23 rfl rfl ?_
           refine o_skip rfl rfl rfl h23 rfl rfl ?_
           refine o_pk (.t (.d (.lit (.bool false)))) (b := false) h23 (gy rfl rfl rfl h22) rfl rfl rfl rfl rfl ?_
           refine o_pk (.t (.d (.lit (.bool false)))) (b := false) h22 (g0 rfl) rfl rfl rfl rfl rfl ?_
           refine o_s (.t (.d (.lit (.bool false)))) (g0 rfl) rfl rfl rfl ?_
           refine o_nil ?_
           repeat (first | refine k1 ?_ | refine k4 ?_)
           refine c_f rfl rfl ?_
           refine c_skip ?_
           repeat (first | refine k1 ?_ | refine k4 ?_)
           refine c_sr ?_
           refine o_s (.t (.d (.lit (.int .i64 0)))) (g0 rfl) rfl rfl rfl ?_
           refine o_nil ?_
           repeat (first | refine k1 ?_ | refine k4 ?_)
           refine c_ret ?_
           repeat (first | refine k3 ?_ | refine k5 ?_)
           obtain rfl := Option.some.inj h
           exact ⟨⟨_, rfl, (.refl _)⟩, trivial, rfl⟩
        ·
         refine o_skip rfl rfl rfl h21 rfl rfl ?_
         refine o_skip rfl rfl rfl h21 rfl rfl ?_
         refine o_skip rfl rfl rfl h21 rfl rfl ?_
         refine o_skip rfl rfl rfl h21 rfl rfl ?_
         refine o_skip rfl rfl rfl h21 rfl rfl ?_
         refine o_pk (.t (.d (.lit (.bool false)))) (b := false) h21 (g0 rfl) rfl rfl rfl rfl rfl ?_
         refine o_s (.t (.d (.lit (.bool false)))) (g0 rfl) rfl rfl rfl ?_
         refine o_s (.t (.d (.lit (.bool x18.1)))) (gy rfl rfl rfl rfl) rfl rfl rfl ?_
         refine o_s (.t (.d (.lit (.bool (!x18.1))))) (gy rfl rfl rfl rfl) rfl rfl rfl ?_
         refine o_s (.t (.d (.lit (.bool (!x18.1))))) (gy rfl rfl rfl rfl) rfl rfl rfl ?_
         rcases bif_some h with ⟨h25, h⟩ | ⟨h25, h⟩
         ·
          refine o_s (.ref 5 5) (gy rfl rfl rfl h25) rfl rfl rfl ?_
          refine o_s (.t (.d (.lit (.int .i64 p2.Cut)))) (gy rfl rfl rfl h25) rfl rfl rfl ?_
          refine o_s (.ref 3 5) (gy rfl rfl rfl h25) rfl rfl rfl ?_
          refine o_s (.t (.d (.lit (.int .i64 p0.Cut)))) (gy rfl rfl rfl h25) rfl rfl rfl ?_
          refine o_s (.t (.d (.lit (.bool (p2.Cut != p0.Cut))))) (gy rfl rfl rfl h25) rfl rfl rfl ?_
          refine o_pk (.t (.d (.lit (.bool (p2.Cut != p0.Cut))))) (b := true) h25 (gy rfl rfl rfl rfl) rfl rfl rfl rfl rfl ?_
          refine o_pk (.t (.d (.lit (.bool (p2.Cut != p0.Cut))))) (b := false) rfl (g0 rfl) rfl rfl rfl rfl rfl ?_
          refine o_s (.t (.d (.lit (.bool (p2.Cut != p0.Cut))))) (g0 rfl) rfl rfl rfl ?_
          refine o_nil ?_
          repeat (first | refine k1 ?_ | refine k4 ?_)
          rcases bif_some h with ⟨h26, h⟩ | ⟨h26, h⟩
          ·
           refine c_t h26 rfl ?_
           refine c_sr ?_
           refine o_s (.t (.d (.lit (.int .i64 11)))) (g0 rfl) rfl rfl rfl ?_
           refine o_nil ?_
           repeat (first | refine k1 ?_ | refine k4 ?_)
           refine c_ret ?_
           repeat (first | refine k3 ?_ | refine k5 ?_)
           obtain rfl := Option.some.inj h
           exact ⟨⟨_, rfl, (.refl _)⟩, trivial, rfl⟩
          ·
           refine c_f h26 rfl ?_
           refine c_skip ?_
           repeat (first | refine k1 ?_ | refine k4 ?_)
           refine c_sr ?_
           refine o_s (.t (.d (.lit (.int .i64 0)))) (g0 rfl) rfl rfl rfl ?_
           refine o_nil ?_
           repeat (first | refine k1 ?_ | refine k4 ?_)
           refine c_ret ?_
           repeat (first | refine k3 ?_ | refine k5 ?_)
           obtain rfl := Option.some.inj h
           exact ⟨⟨_, rfl, (.refl _)⟩, trivial, rfl⟩
         ·
          refine o_skip rfl rfl rfl h25 rfl rfl ?_
          refine o_skip rfl rfl rfl h25 rfl rfl ?_
          refine o_skip rfl rfl rfl h25 rfl rfl ?_
          refine o_skip rfl rfl rfl h25 rfl rfl ?_
          refine o_skip rfl rfl rfl h25 rfl rfl ?_
          refine o_pk (.t (.d (.lit (.bool false)))) (b := false) h25 (gy rfl rfl rfl rfl) rfl rfl rfl rfl rfl ?_
          refine o_pk (.t (.d (.lit (.bool false)))) (b := false) rfl (g0 rfl) rfl rfl rfl rfl rfl ?_
          refine o_s (.t (.d (.lit (.bool false)))) (g0 rfl) rfl rfl rfl ?_
          refine o_nil ?_
          repeat (first | refine k1 ?_ | refine k4 ?_)
          refine c_f rfl rfl ?_
          refine c_skip ?_
          repeat (first | refine k1 ?_ | refine k4 ?_)
          refine c_sr ?_
          refine o_s (.t (.d (.lit (.int .i64 0)))) (g0 rfl) rfl rfl rfl ?_
          refine o_nil ?_
          repeat (first | refine k1 ?_ | refine k4 ?_)
          refine c_ret ?_
          repeat (first | refine k3 ?_ | refine k5 ?_)
          obtain rfl := Option.some.inj h
          exact ⟨⟨_, rfl, (.refl _)⟩, trivial, rfl⟩

theorem fc_R27_Owners (p0 : (List S_api_Member)) (r : Int) (h : m_R27_Owners p0 = some r) : FC Try.prog 58 [.t (.d (.seq 2 (List.map cS_api_Member p0)))] [] (.t (.d (.lit (.int .i64 r)))) := by
 refine fc_mk (rs := [.tmp 2]) (n := 20) Try.func58 rfl rfl (Nat.le_of_ble_eq_true rfl) rfl (pins := []) rfl (L := [(0, .t (.d (.seq 2 (List.map cS_api_Member p0))))]) rfl ?_
 refine c_sr ?_
 refine o_s (.t (.d (.lit (.int .i64 0)))) (g0 rfl) rfl rfl rfl ?_
 refine o_nil ?_
 repeat (first | refine k1 ?_ | refine k4 ?_)
 refine c_sr ?_
 refine o_s (.t (.d (.lit (.int .i64 0)))) (g0 rfl) rfl rfl rfl ?_
 refine o_nil ?_
 repeat (first | refine k1 ?_ | refine k4 ?_)
 refine c_seq ?_
 refine c_sr ?_
 refine o_s (.t (.d (.lit (.int .i64 0)))) (g0 rfl) rfl rfl rfl ?_
 refine o_nil ?_
 repeat (first | refine k1 ?_ | refine k4 ?_)
 refine c_block ?_
 refine c_fuel (fun (q : Int × Int) => [(0, .t (.d (.seq 2 (List.map cS_api_Member p0)))), (3, .t (.d (.lit (.int .i64 q.1)))), (4, .t (.d (.lit (.int .i64 q.2))))]) (fun nl1 => (fun (q : Int × Int) => m_R27_Owners_l1 p0 nl1 q.1 q.2 = some r)) (p0.length + 1) (0, 0) h ⟨(.refl _), ⟨(.refl _), ⟨(.refl _), trivial⟩⟩⟩ rfl ?_
 rintro nl1 ⟨z1, z2⟩ h
 cases nl1 with
 | zero => exact none_ne h
 | succ nl1 =>
  refine c_seq ?_
  refine c_sr ?_
  refine o_s (.t (.d (.lit (.int .i64 z2)))) (g0 rfl) rfl rfl rfl ?_
  refine o_s (.t (.d (.seq 2 (List.map cS_api_Member p0)))) (g0 rfl) rfl rfl rfl ?_
  refine o_c (g0 rfl) rfl rfl rfl (lenE _ _) trivial ?_
  refine o_s (.t (.d (.lit (.bool (decide (z2 < (p0.length : Int))))))) (g0 rfl) rfl rfl rfl ?_
  refine o_nil ?_
  repeat (first | refine k1 ?_ | refine k4 ?_)
  rcases bif_some h with ⟨h3, h⟩ | ⟨h3, h⟩
  ·
   refine c_t h3 rfl ?_
   refine c_skip ?_
   repeat (first | refine k1 ?_ | refine k4 ?_)
   refine c_cut (fun (y4 : Int) => [(0, .t (.d (.seq 2 (List.map cS_api_Member p0)))), (3, .t (.d (.lit (.int .i64 y4)))), (4, .t (.d (.lit (.int .i64 z2))))]) (fun (y4 : Int) => m_R27_Owners_j2 (m_R27_Owners_l1 p0 nl1) z2 y4 = some r) ?_ ?_
   ·
    refine c_block ?_
    refine c_sr ?_
    refine o_s (.t (.d (.seq 2 (List.map cS_api_Member p0)))) (g0 rfl) rfl rfl rfl ?_
    refine o_s (.t (.d (.lit (.int .i64 z2)))) (g0 rfl) rfl rfl rfl ?_
    obtain ⟨x5, h6, h⟩ := bind_some h
    refine o_c (g0 rfl) rfl rfl rfl (idxE h6) (idxC h6) ?_
    refine o_s (.imm [.lit (.int .i64 x5.Role)]) (g0 rfl) rfl rfl rfl ?_
    refine o_s (.t (.d (.lit (.int .i64 x5.Role)))) (g0 rfl) rfl rfl rfl ?_
    refine o_s (.t (.d (.lit (.bool (x5.Role == 4))))) (g0 rfl) rfl rfl rfl ?_
    refine o_nil ?_
    repeat (first | refine k1 ?_ | refine k4 ?_)
    rcases bif_some h with ⟨h7, h⟩ | ⟨h7, h⟩
    ·
     refine c_t h7 rfl ?_
     refine c_region ?_
     refine o_s (.t (.d (.lit (.int .i64 z1)))) (g0 rfl) rfl rfl rfl ?_
     refine o_s (.t (.d (.lit (.int .i64 (wi (z1 + 1)))))) (g0 rfl) rfl rfl rfl ?_
     refine o_s (.t (.d (.lit (.int .i64 (wi (z1 + 1)))))) (g0 rfl) rfl rfl rfl ?_
     refine o_nil ?_
     repeat (first | refine k1 ?_ | refine k4 ?_)
     exact ⟨(wi (z1 + 1)), h, ⟨(.refl _), ⟨(.refl _), ⟨(.refl _), trivial⟩⟩⟩, rfl⟩
    ·
     refine c_f h7 rfl ?_
     refine c_skip ?_
     repeat (first | refine k1 ?_ | refine k4 ?_)
     exact ⟨z1, h, ⟨(.refl _), ⟨(.refl _), ⟨(.refl _), trivial⟩⟩⟩, rfl⟩
   ·
    rintro y4 h
    refine c_region ?_
    refine o_s (.t (.d (.lit (.int .i64 z2)))) (g0 rfl) rfl rfl rfl ?_
    refine o_s (.t (.d (.lit (.int .i64 (wi (z2 + 1)))))) (g0 rfl) rfl rfl rfl ?_
    refine o_s (.t (.d (.lit (.int .i64 (wi (z2 + 1)))))) (g0 rfl) rfl rfl rfl ?_
    refine o_nil ?_
    repeat (first | refine k1 ?_ | refine k4 ?_)
    exact ⟨nl1, (y4, (wi (z2 + 1))), Nat.lt_succ_self nl1, h, ⟨(.refl _), ⟨(.refl _), ⟨(.refl _), trivial⟩⟩⟩, rfl⟩
  ·
   refine c_f h3 rfl ?_
   refine c_exit ?_
   repeat (first | refine k1 ?_ | refine k2 ?_ | refine k3 ?_ | refine k4 ?_ | refine k5 ?_ | refine k6 ?_ | refine k7 rfl ?_)
   refine c_sr ?_
   refine o_s (.t (.d (.lit (.int .i64 z1)))) (g0 rfl) rfl rfl rfl ?_
   refine o_s (.t (.d (.lit (.int .i64 z1)))) (g0 rfl) rfl rfl rfl ?_
   refine o_nil ?_
   repeat (first | refine k1 ?_ | refine k4 ?_)
   refine c_ret ?_
   repeat (first | refine k3 ?_ | refine k5 ?_)
   obtain rfl := Option.some.inj h
   exact end0 rfl (.refl _)

theorem fc_R27_Right (p0 : (List S_api_Member)) (r : Bool) (h : m_R27_Right p0 = some r) : FC Try.prog 41 [.t (.d (.seq 2 (List.map cS_api_Member p0)))] [] (.t (.d (.lit (.bool r)))) := by
 refine fc_mk (rs := [.tmp 2]) (n := 58) Try.func41 rfl rfl (Nat.le_of_ble_eq_true rfl) rfl (pins := []) rfl (L := [(0, .t (.d (.seq 2 (List.map cS_api_Member p0))))]) rfl ?_
 refine c_sr ?_
 refine o_s (.t (.d (.lit (.bool false)))) (g0 rfl) rfl rfl rfl ?_
 refine o_nil ?_
 repeat (first | refine k1 ?_ | refine k4 ?_)
 refine c_seq ?_
 refine c_sr ?_
 refine o_s (.t (.d (.seq 2 (List.map cS_api_Member p0)))) (g0 rfl) rfl rfl rfl ?_
 refine o_c (g0 rfl) rfl rfl rfl (lenE _ _) trivial ?_
 refine o_s (.t (.d (.lit (.bool (decide ((p0.length : Int) > 8)))))) (g0 rfl) rfl rfl rfl ?_
 refine o_s (.t (.d (.lit (.bool (decide ((p0.length : Int) > 8)))))) (g0 rfl) rfl rfl rfl ?_
 rcases bif_some h with ⟨h1, h⟩ | ⟨h1, h⟩
 ·
  refine o_skip rfl rfl rfl h1 rfl rfl ?_
  refine o_skip rfl rfl rfl h1 rfl rfl ?_
  refine o_skip rfl rfl rfl h1 rfl rfl ?_
  refine o_pk (.t (.d (.lit (.bool true)))) (b := true) h1 (g0 rfl) rfl rfl rfl rfl rfl ?_
  refine o_nil ?_
  repeat (first | refine k1 ?_ | refine k4 ?_)
  refine c_t rfl rfl ?_
  refine c_sr ?_
  refine o_s (.t (.d (.lit (.bool false)))) (g0 rfl) rfl rfl rfl ?_
  refine o_nil ?_
  repeat (first | refine k1 ?_ | refine k4 ?_)
  refine c_ret ?_
  repeat (first | refine k3 ?_ | refine k5 ?_)
  obtain rfl := Option.some.inj h
  exact end0 rfl (.refl _)
 ·
  refine o_s (.t (.d (.seq 2 (List.map cS_api_Member p0)))) (gy rfl rfl rfl h1) rfl rfl rfl ?_
  obtain ⟨x2, h3, h⟩ := bind_some h
  refine o_ca (fc_R27_Owners _ _ h3) (gy rfl rfl rfl h1) rfl rfl rfl rfl rfl rfl rfl (.cons (.refl _) .nil) rfl rfl ?_
  refine o_s (.t (.d (.lit (.bool (x2 == 0))))) (gy rfl rfl rfl h1) rfl rfl rfl ?_
  refine o_pk (.t (.d (.lit (.bool (x2 == 0))))) (b := false) h1 (g0 rfl) rfl rfl rfl rfl rfl ?_
  refine o_nil ?_
  repeat (first | refine k1 ?_ | refine k4 ?_)
  rcases bif_some h with ⟨h4, h⟩ | ⟨h4, h⟩
  ·
   refine c_t h4 rfl ?_
   refine c_sr ?_
   refine o_s (.t (.d (.lit (.bool false)))) (g0 rfl) rfl rfl rfl ?_
   refine o_nil ?_
   repeat (first | refine k1 ?_ | refine k4 ?_)
   refine c_ret ?_
   repeat (first | refine k3 ?_ | refine k5 ?_)
   obtain rfl := Option.some.inj h
   exact end0 rfl (.refl _)
  ·
   refine c_f h4 rfl ?_
   refine c_skip ?_
   repeat (first | refine k1 ?_ | refine k4 ?_)
   refine c_seq ?_
   refine c_sr ?_
   refine o_s (.t (.d (.lit (.int .i64 0)))) (g0 rfl) rfl rfl rfl ?_
   refine o_nil ?_
   repeat (first | refine k1 ?_ | refine k4 ?_)
   refine c_block ?_
   refine c_fuel (fun (z5 : Int) => [(0, .t (.d (.seq 2 (List.map cS_api_Member p0)))), (3, .t (.d (.lit (.int .i64 z5))))]) (fun nl1 => (fun (z5 : Int) => m_R27_Right_l1 p0 nl1 z5 = some r)) (p0.length + 1) 0 h ⟨(.refl _), ⟨(.refl _), trivial⟩⟩ rfl ?_
   rintro nl1 z5 h
   cases nl1 with
   | zero => exact none_ne h
   | succ nl1 =>
    refine c_seq ?_
    refine c_sr ?_
    refine o_s (.t (.d (.lit (.int .i64 z5)))) (g0 rfl) rfl rfl rfl ?_
    refine o_s (.t (.d (.seq 2 (List.map cS_api_Member p0)))) (g0 rfl) rfl rfl rfl ?_
    refine o_c (g0 rfl) rfl rfl rfl (lenE _ _) trivial ?_
    refine o_s (.t (.d (.lit (.bool (decide (z5 < (p0.length : Int))))))) (g0 rfl) rfl rfl rfl ?_
    refine o_nil ?_
    repeat (first | refine k1 ?_ | refine k4 ?_)
    rcases bif_some h with ⟨h6, h⟩ | ⟨h6, h⟩
    ·
     refine c_t h6 rfl ?_
     refine c_skip ?_
     repeat (first | refine k1 ?_ | refine k4 ?_)
     refine c_cut (fun (q : (List UInt8) × Int × Int × Int × Bool × (List UInt8) × Int × Int × Int × Bool) => [(0, .t (.d (.seq 2 (List.map cS_api_Member p0)))), (3, .t (.d (.lit (.int .i64 z5)))), (27, .t (.d (.seq 2 (List.map cS_api_Member p0)))), (28, .t (.d (.lit (.int .i64 z5)))), (29, .imm [.lit (.string ⟨⟨q.1⟩⟩), .lit (.int .i64 q.2.1)]), (30, .imm [.lit (.int .i64 q.2.2.1)]), (31, .t (.d (.lit (.int .i64 q.2.2.2.1)))), (32, .t (.d (.lit (.bool q.2.2.2.2.1)))), (35, .t (.d (.seq 2 (List.map cS_api_Member p0)))), (36, .t (.d (.lit (.int .i64 z5)))), (37, .imm [.lit (.string ⟨⟨q.2.2.2.2.2.1⟩⟩), .lit (.int .i64 q.2.2.2.2.2.2.1)]), (38, .imm [.lit (.int .i64 q.2.2.2.2.2.2.2.1)]), (39, .t (.d (.lit (.int .i64 q.2.2.2.2.2.2.2.2.1)))), (40, .t (.d (.lit (.bool q.2.2.2.2.2.2.2.2.2))))]) (fun (q : (List UInt8) × Int × Int × Int × Bool × (List UInt8) × Int × Int × Int × Bool) => m_R27_Right_j2 (m_R27_Right_l1 p0 nl1) z5 q.1 q.2.1 q.2.2.1 q.2.2.2.1 q.2.2.2.2.1 q.2.2.2.2.2.1 q.2.2.2.2.2.2.1 q.2.2.2.2.2.2.2.1 q.2.2.2.2.2.2.2.2.1 q.2.2.2.2.2.2.2.2.2 = some r) ?_ ?_
     ·
      refine c_block ?_
      refine c_seq ?_
      refine c_sr ?_
      refine o_s (.t (.d (.seq 2 (List.map cS_api_Member p0)))) (g0 rfl) rfl rfl rfl ?_
      refine o_s (.t (.d (.lit (.int .i64 z5)))) (g0 rfl) rfl rfl rfl ?_
      obtain ⟨x17, h18, h⟩ := bind_some h
      refine o_c (g0 rfl) rfl rfl rfl (idxE h18) (idxC h18) ?_
      refine o_s (.imm [.lit (.string ⟨⟨x17.Name⟩⟩), .lit (.int .i64 x17.Role)]) (g0 rfl) rfl rfl rfl ?_
      refine o_s (.t (.d (.lit (.string ⟨⟨x17.Name⟩⟩)))) (g0 rfl) rfl rfl rfl ?_
      obtain ⟨x19, h20, h⟩ := bind_some h
      refine o_ca (fc_R25_Name _ _ h20) (g0 rfl) rfl rfl rfl rfl rfl rfl rfl (.cons (.refl _) .nil) rfl rfl ?_
      refine o_s (.t (.d (.lit (.bool (!x19))))) (g0 rfl) rfl rfl rfl ?_
      refine o_s (.t (.d (.lit (.bool (!x19))))) (g0 rfl) rfl rfl rfl ?_
      rcases bif_some h with ⟨h21, h⟩ | ⟨h21, h⟩
      ·
       refine o_skip rfl rfl rfl h21 rfl rfl ?_
       refine o_skip rfl rfl rfl h21 rfl rfl ?_
       refine o_skip rfl rfl rfl h21 rfl rfl ?_
       refine o_skip rfl rfl rfl h21 rfl rfl ?_
       refine o_skip rfl rfl rfl h21 rfl rfl ?_
       refine o_skip rfl rfl rfl h21 rfl rfl ?_
       refine o_pk (.t (.d (.lit (.bool true)))) (b := true) h21 (g0 rfl) rfl rfl rfl rfl rfl ?_
       refine o_s (.t (.d (.lit (.bool true)))) (g0 rfl) rfl rfl rfl ?_
       refine o_skip rfl rfl rfl rfl rfl rfl ?_
       refine o_skip rfl rfl rfl rfl rfl rfl ?_
       refine o_skip rfl rfl rfl rfl rfl rfl ?_
       refine o_skip rfl rfl rfl rfl rfl rfl ?_
       refine o_skip rfl rfl rfl rfl rfl rfl ?_
       refine o_skip rfl rfl rfl rfl rfl rfl ?_
       refine o_pk (.t (.d (.lit (.bool true)))) (b := true) rfl (g0 rfl) rfl rfl rfl rfl rfl ?_
       refine o_nil ?_
       repeat (first | refine k1 ?_ | refine k4 ?_)
       refine c_t rfl rfl ?_
       refine c_sr ?_
       refine o_s (.t (.d (.lit (.bool false)))) (g0 rfl) rfl rfl rfl ?_
       refine o_nil ?_
       repeat (first | refine k1 ?_ | refine k4 ?_)
       refine c_ret ?_
       repeat (first | refine k3 ?_ | refine k5 ?_)
       obtain rfl := Option.some.inj h
       exact end0 rfl (.refl _)
      ·
       refine o_s (.t (.d (.seq 2 (List.map cS_api_Member p0)))) (gy rfl rfl rfl h21) rfl rfl rfl ?_
       refine o_s (.t (.d (.lit (.int .i64 z5)))) (gy rfl rfl rfl h21) rfl rfl rfl ?_
       obtain ⟨x22, h23, h⟩ := bind_some h
       refine o_c (gy rfl rfl rfl h21) rfl rfl rfl (idxE h23) (idxC h23) ?_
       refine o_s (.imm [.lit (.int .i64 x22.Role)]) (gy rfl rfl rfl h21) rfl rfl rfl ?_
       refine o_s (.t (.d (.lit (.int .i64 x22.Role)))) (gy rfl rfl rfl h21) rfl rfl rfl ?_
       refine o_s (.t (.d (.lit (.bool (decide (x22.Role < 1)))))) (gy rfl rfl rfl h21) rfl rfl rfl ?_
       refine o_pk (.t (.d (.lit (.bool (decide (x22.Role < 1)))))) (b := false) h21 (g0 rfl) rfl rfl rfl rfl rfl ?_
       refine o_s (.t (.d (.lit (.bool (decide (x22.Role < 1)))))) (g0 rfl) rfl rfl rfl ?_
       rcases bif_some h with ⟨h24, h⟩ | ⟨h24, h⟩
       ·
        refine o_skip rfl rfl rfl h24 rfl rfl ?_
        refine o_skip rfl rfl rfl h24 rfl rfl ?_
        refine o_skip rfl rfl rfl h24 rfl rfl ?_
        refine o_skip rfl rfl rfl h24 rfl rfl ?_
        refine o_skip rfl rfl rfl h24 rfl rfl ?_
        refine o_skip rfl rfl rfl h24 rfl rfl ?_
        refine o_pk (.t (.d (.lit (.bool true)))) (b := true) h24 (g0 rfl) rfl rfl rfl rfl rfl ?_
        refine o_nil ?_
        repeat (first | refine k1 ?_ | refine k4 ?_)
        refine c_t rfl rfl ?_
        refine c_sr ?_
        refine o_s (.t (.d (.lit (.bool false)))) (g0 rfl) rfl rfl rfl ?_
        refine o_nil ?_
        repeat (first | refine k1 ?_ | refine k4 ?_)
        refine c_ret ?_
        repeat (first | refine k3 ?_ | refine k5 ?_)
        obtain rfl := Option.some.inj h
        exact end0 rfl (.refl _)
       ·
        refine o_s (.t (.d (.seq 2 (List.map cS_api_Member p0)))) (gy rfl rfl rfl h24) rfl rfl rfl ?_
        refine o_s (.t (.d (.lit (.int .i64 z5)))) (gy rfl rfl rfl h24) rfl rfl rfl ?_
        obtain ⟨x25, h26, h⟩ := bind_some h
        refine o_c (gy rfl rfl rfl h24) rfl rfl rfl (idxE h26) (idxC h26) ?_
        refine o_s (.imm [.lit (.int .i64 x25.Role)]) (gy rfl rfl rfl h24) rfl rfl rfl ?_
        refine o_s (.t (.d (.lit (.int .i64 x25.Role)))) (gy rfl rfl rfl h24) rfl rfl rfl ?_
        refine o_s (.t (.d (.lit (.bool (decide (x25.Role > 4)))))) (gy rfl rfl rfl h24) rfl rfl rfl ?_
        refine o_pk (.t (.d (.lit (.bool (decide (x25.Role > 4)))))) (b := false) h24 (g0 rfl) rfl rfl rfl rfl rfl ?_
        refine o_nil ?_
        repeat (first | refine k1 ?_ | refine k4 ?_)
        rcases bif_some h with ⟨h27, h⟩ | ⟨h27, h⟩
        ·
         refine c_t h27 rfl ?_
         refine c_sr ?_
         refine o_s (.t (.d (.lit (.bool false)))) (g0 rfl) rfl rfl rfl ?_
         refine o_nil ?_
         repeat (first | refine k1 ?_ | refine k4 ?_)
         refine c_ret ?_
         repeat (first | refine k3 ?_ | refine k5 ?_)
         obtain rfl := Option.some.inj h
         exact end0 rfl (.refl _)
        ·
         refine c_f h27 rfl ?_
         refine c_skip ?_
         repeat (first | refine k1 ?_ | refine k4 ?_)
         refine c_sr ?_
         refine o_s (.t (.d (.lit (.int .i64 0)))) (g0 rfl) rfl rfl rfl ?_
         refine o_nil ?_
         repeat (first | refine k1 ?_ | refine k4 ?_)
         refine c_block ?_
         refine c_fuel (fun (z28 : Int) => [(0, .t (.d (.seq 2 (List.map cS_api_Member p0)))), (3, .t (.d (.lit (.int .i64 z5)))), (4, .t (.d (.lit (.int .i64 z28)))), (27, .t (.d (.seq 2 (List.map cS_api_Member p0)))), (28, .t (.d (.lit (.int .i64 z5)))), (29, .imm [.lit (.string ⟨⟨x22.Name⟩⟩), .lit (.int .i64 x22.Role)]), (30, .imm [.lit (.int .i64 x22.Role)]), (31, .t (.d (.lit (.int .i64 x22.Role)))), (32, .t (.d (.lit (.bool (decide (x22.Role < 1)))))), (35, .t (.d (.seq 2 (List.map cS_api_Member p0)))), (36, .t (.d (.lit (.int .i64 z5)))), (37, .imm [.lit (.string ⟨⟨x25.Name⟩⟩), .lit (.int .i64 x25.Role)]), (38, .imm [.lit (.int .i64 x25.Role)]), (39, .t (.d (.lit (.int .i64 x25.Role)))), (40, .t (.d (.lit (.bool (decide (x25.Role > 4))))))]) (fun nl3 => (fun (z28 : Int) => m_R27_Right_l3 (m_R27_Right_l1 p0 nl1) z5 p0 x22 x25 nl3 z28 = some r)) (Int.toNat z5 + 1) 0 h ⟨(.refl _), ⟨(.refl _), ⟨(.refl _), ⟨(.refl _), ⟨(.refl _), ⟨(.refl _), ⟨(.refl _), ⟨(.refl _), ⟨(.refl _), ⟨(.refl _), ⟨(.refl _), ⟨(.refl _), ⟨(.refl _), ⟨(.refl _), ⟨(.refl _), trivial⟩⟩⟩⟩⟩⟩⟩⟩⟩⟩⟩⟩⟩⟩⟩ rfl ?_
         rintro nl3 z28 h
         cases nl3 with
         | zero => exact none_ne h
         | succ nl3 =>
          refine c_seq ?_
          refine c_sr ?_
          refine o_s (.t (.d (.lit (.int .i64 z28)))) (g0 rfl) rfl rfl rfl ?_
          refine o_s (.t (.d (.lit (.int .i64 z5)))) (g0 rfl) rfl rfl rfl ?_
          refine o_s (.t (.d (.lit (.bool (decide (z28 < z5)))))) (g0 rfl) rfl rfl rfl ?_
          refine o_nil ?_
          repeat (first | refine k1 ?_ | refine k4 ?_)
          rcases bif_some h with ⟨h29, h⟩ | ⟨h29, h⟩
          ·
           refine c_t h29 rfl ?_
           refine c_skip ?_
           repeat (first | refine k1 ?_ | refine k4 ?_)
           refine c_seq ?_
           refine c_block ?_
           refine c_seq ?_
           refine c_draw mixed (by kernel_rfl) ?_
           refine d_s (.t (.d (.seq 2 (List.map cS_api_Member p0)))) rfl (dg0 rfl) rfl rfl rfl rfl ?_
           refine d_s (.t (.d (.lit (.int .i64 z28)))) rfl (dg0 rfl) rfl rfl rfl rfl ?_
           obtain ⟨x30, h31, h⟩ := bind_some h
           refine d_c rfl (dg0 rfl) rfl rfl rfl rfl (idxE h31) (idxC h31) ?_
           refine d_s (.imm [.lit (.string ⟨⟨x30.Name⟩⟩), .lit (.int .i64 x30.Role)]) rfl (dg0 rfl) rfl rfl rfl rfl ?_
           refine d_s (.t (.d (.lit (.string ⟨⟨x30.Name⟩⟩)))) rfl (dg0 rfl) rfl rfl rfl rfl ?_
           refine d_s (.t (.d (.seq 2 (List.map cS_api_Member p0)))) rfl (dg0 rfl) rfl rfl rfl rfl ?_
           refine d_s (.t (.d (.lit (.int .i64 z5)))) rfl (dg0 rfl) rfl rfl rfl rfl ?_
           obtain ⟨x32, h33, h⟩ := bind_some h
           refine d_c rfl (dg0 rfl) rfl rfl rfl rfl (idxE h33) (idxC h33) ?_
           refine d_s (.imm [.lit (.string ⟨⟨x32.Name⟩⟩), .lit (.int .i64 x32.Role)]) rfl (dg0 rfl) rfl rfl rfl rfl ?_
           refine d_s (.t (.d (.lit (.string ⟨⟨x32.Name⟩⟩)))) rfl (dg0 rfl) rfl rfl rfl rfl ?_
           refine d_c rfl (dg0 rfl) rfl rfl rfl rfl (congrArg (fun z => A.t (.d (.lit (.bool z)))) (s_ge _ _)) trivial ?_
           refine d_nil (by kernel_rfl) ?_
           repeat (first | refine k1 ?_ | refine k2 ?_ | refine k3 ?_ | refine k4 ?_ | refine k5 ?_ | refine k6 ?_ | refine k7 rfl ?_)
           rcases bif_some h with ⟨h34, h⟩ | ⟨h34, h⟩
           ·
            refine c_t h34 rfl ?_
            refine c_sr ?_
            refine o_s (.t (.d (.lit (.bool false)))) (g0 rfl) rfl rfl rfl ?_
            refine o_nil ?_
            repeat (first | refine k1 ?_ | refine k4 ?_)
            refine c_ret ?_
            repeat (first | refine k3 ?_ | refine k5 ?_)
            obtain rfl := Option.some.inj h
            exact end0 rfl (.refl _)
           ·
            refine c_f h34 rfl ?_
            refine c_skip ?_
            repeat (first | refine k1 ?_ | refine k4 ?_)
            refine c_region ?_
            refine o_s (.t (.d (.lit (.int .i64 z28)))) (g0 rfl) rfl rfl rfl ?_
            refine o_s (.t (.d (.lit (.int .i64 (wi (z28 + 1)))))) (g0 rfl) rfl rfl rfl ?_
            refine o_s (.t (.d (.lit (.int .i64 (wi (z28 + 1)))))) (g0 rfl) rfl rfl rfl ?_
            refine o_nil ?_
            repeat (first | refine k1 ?_ | refine k4 ?_)
            exact ⟨nl3, (wi (z28 + 1)), Nat.lt_succ_self nl3, h, ⟨(.refl _), ⟨(.refl _), ⟨(.refl _), ⟨(.refl _), ⟨(.refl _), ⟨(.refl _), ⟨(.refl _), ⟨(.refl _), ⟨(.refl _), ⟨(.refl _), ⟨(.refl _), ⟨(.refl _), ⟨(.refl _), ⟨(.refl _), ⟨(.refl _), trivial⟩⟩⟩⟩⟩⟩⟩⟩⟩⟩⟩⟩⟩⟩⟩, rfl⟩
          ·
           refine c_f h29 rfl ?_
           refine c_exit ?_
           repeat (first | refine k1 ?_ | refine k2 ?_ | refine k3 ?_ | refine k4 ?_ | refine k5 ?_ | refine k6 ?_ | refine k7 rfl ?_)
           exact ⟨(x22.Name, x22.Role, x22.Role, x22.Role, (decide (x22.Role < 1)), x25.Name, x25.Role, x25.Role, x25.Role, (decide (x25.Role > 4))), h, ⟨(.refl _), ⟨(.refl _), ⟨(.refl _), ⟨(.refl _), ⟨(.refl _), ⟨(.refl _), ⟨(.refl _), ⟨(.refl _), ⟨(.refl _), ⟨(.refl _), ⟨(.refl _), ⟨(.refl _), ⟨(.refl _), ⟨(.refl _), trivial⟩⟩⟩⟩⟩⟩⟩⟩⟩⟩⟩⟩⟩⟩, rfl⟩
     ·
      rintro ⟨y7, y8, y9, y10, y11, y12, y13, y14, y15, y16⟩ h
      refine c_region ?_
      refine o_s (.t (.d (.lit (.int .i64 z5)))) (g0 rfl) rfl rfl rfl ?_
      refine o_s (.t (.d (.lit (.int .i64 (wi (z5 + 1)))))) (g0 rfl) rfl rfl rfl ?_
      refine o_s (.t (.d (.lit (.int .i64 (wi (z5 + 1)))))) (g0 rfl) rfl rfl rfl ?_
      refine o_nil ?_
      repeat (first | refine k1 ?_ | refine k4 ?_)
      exact ⟨nl1, (wi (z5 + 1)), Nat.lt_succ_self nl1, h, ⟨(.refl _), ⟨(.refl _), trivial⟩⟩, rfl⟩
    ·
     refine c_f h6 rfl ?_
     refine c_exit ?_
     repeat (first | refine k1 ?_ | refine k2 ?_ | refine k3 ?_ | refine k4 ?_ | refine k5 ?_ | refine k6 ?_ | refine k7 rfl ?_)
     refine c_sr ?_
     refine o_s (.t (.d (.lit (.bool true)))) (g0 rfl) rfl rfl rfl ?_
     refine o_nil ?_
     repeat (first | refine k1 ?_ | refine k4 ?_)
     refine c_ret ?_
     repeat (first | refine k3 ?_ | refine k5 ?_)
     obtain rfl := Option.some.inj h
     exact end0 rfl (.refl _)

theorem fc_R28_May (p0 : S_api_Manifest) (r : Bool) (h : m_R28_May p0 = some r) : FC Try.prog 18 [.t (.agg [.lit (.string ⟨⟨p0.Folder⟩⟩), .lit (.int .i64 p0.Seq), .seq 1 (bytesD p0.Prev), .lit (.string ⟨⟨p0.Parent⟩⟩), .seq 2 (List.map cS_api_Member p0.Members), .lit (.int .i64 p0.Cut), .lit (.bool p0.Gone), .lit (.string ⟨⟨p0.By⟩⟩)])] [] (.t (.d (.lit (.bool r)))) := by
 refine fc_mk (rs := [.tmp 2]) (n := 80) Try.func18 rfl rfl (Nat.le_of_ble_eq_true rfl) rfl (pins := []) rfl (L := [(0, .t (.agg [.lit (.string ⟨⟨p0.Folder⟩⟩), .lit (.int .i64 p0.Seq), .seq 1 (bytesD p0.Prev), .lit (.string ⟨⟨p0.Parent⟩⟩), .seq 2 (List.map cS_api_Member p0.Members), .lit (.int .i64 p0.Cut), .lit (.bool p0.Gone), .lit (.string ⟨⟨p0.By⟩⟩)]))]) rfl ?_
 refine c_sr ?_
 refine o_s (.box [.d (.lit (.string ⟨⟨p0.Folder⟩⟩)), .d (.lit (.int .i64 p0.Seq)), .d (.seq 1 (bytesD p0.Prev)), .d (.lit (.string ⟨⟨p0.Parent⟩⟩)), .d (.seq 2 (List.map cS_api_Member p0.Members)), .d (.lit (.int .i64 p0.Cut)), .d (.lit (.bool p0.Gone)), .d (.lit (.string ⟨⟨p0.By⟩⟩))]) (g0 rfl) rfl rfl rfl ?_
 refine o_s (.t (.d (.lit (.bool false)))) (g0 rfl) rfl rfl rfl ?_
 refine o_nil ?_
 repeat (first | refine k1 ?_ | refine k4 ?_)
 refine c_seq ?_
 refine c_sr ?_
 refine o_s (.ref 1 0) (g0 rfl) rfl rfl rfl ?_
 refine o_s (.t (.d (.lit (.string ⟨⟨p0.Folder⟩⟩)))) (g0 rfl) rfl rfl rfl ?_
 obtain ⟨x1, h2, h⟩ := bind_some h
 refine o_ca (fc_R25_Name _ _ h2) (g0 rfl) rfl rfl rfl rfl rfl rfl rfl (.cons (.refl _) .nil) rfl rfl ?_
 refine o_s (.t (.d (.lit (.bool (!x1))))) (g0 rfl) rfl rfl rfl ?_
 refine o_s (.t (.d (.lit (.bool (!x1))))) (g0 rfl) rfl rfl rfl ?_
 rcases bif_some h with ⟨h3, h⟩ | ⟨h3, h⟩
 ·
  refine o_skip rfl rfl rfl h3 rfl rfl ?_
  refine o_skip rfl rfl rfl h3 rfl rfl ?_
  refine o_skip rfl rfl rfl h3 rfl rfl ?_
  refine o_skip rfl rfl rfl h3 rfl rfl ?_
  refine o_pk (.t (.d (.lit (.bool true)))) (b := true) h3 (g0 rfl) rfl rfl rfl rfl rfl ?_
  refine o_s (.t (.d (.lit (.bool true)))) (g0 rfl) rfl rfl rfl ?_
  refine o_skip rfl rfl rfl rfl rfl rfl ?_
  refine o_skip rfl rfl rfl rfl rfl rfl ?_
  refine o_skip rfl rfl rfl rfl rfl rfl ?_
  refine o_skip rfl rfl rfl rfl rfl rfl ?_
  refine o_pk (.t (.d (.lit (.bool true)))) (b := true) rfl (g0 rfl) rfl rfl rfl rfl rfl ?_
  refine o_nil ?_
  repeat (first | refine k1 ?_ | refine k4 ?_)
  refine c_t rfl rfl ?_
  refine c_sr ?_
  refine o_s (.t (.d (.lit (.bool false)))) (g0 rfl) rfl rfl rfl ?_
  refine o_nil ?_
  repeat (first | refine k1 ?_ | refine k4 ?_)
  refine c_ret ?_
  repeat (first | refine k3 ?_ | refine k5 ?_)
  obtain rfl := Option.some.inj h
  exact end0 rfl (.refl _)
 ·
  refine o_s (.ref 1 7) (gy rfl rfl rfl h3) rfl rfl rfl ?_
  refine o_s (.t (.d (.lit (.string ⟨⟨p0.By⟩⟩)))) (gy rfl rfl rfl h3) rfl rfl rfl ?_
  obtain ⟨x4, h5, h⟩ := bind_some h
  refine o_ca (fc_R25_Name _ _ h5) (gy rfl rfl rfl h3) rfl rfl rfl rfl rfl rfl rfl (.cons (.refl _) .nil) rfl rfl ?_
  refine o_s (.t (.d (.lit (.bool (!x4))))) (gy rfl rfl rfl h3) rfl rfl rfl ?_
  refine o_pk (.t (.d (.lit (.bool (!x4))))) (b := false) h3 (g0 rfl) rfl rfl rfl rfl rfl ?_
  refine o_s (.t (.d (.lit (.bool (!x4))))) (g0 rfl) rfl rfl rfl ?_
  rcases bif_some h with ⟨h6, h⟩ | ⟨h6, h⟩
  ·
   refine o_skip rfl rfl rfl h6 rfl rfl ?_
   refine o_skip rfl rfl rfl h6 rfl rfl ?_
   refine o_skip rfl rfl rfl h6 rfl rfl ?_
   refine o_skip rfl rfl rfl h6 rfl rfl ?_
   refine o_pk (.t (.d (.lit (.bool true)))) (b := true) h6 (g0 rfl) rfl rfl rfl rfl rfl ?_
   refine o_nil ?_
   repeat (first | refine k1 ?_ | refine k4 ?_)
   refine c_t rfl rfl ?_
   refine c_sr ?_
   refine o_s (.t (.d (.lit (.bool false)))) (g0 rfl) rfl rfl rfl ?_
   refine o_nil ?_
   repeat (first | refine k1 ?_ | refine k4 ?_)
   refine c_ret ?_
   repeat (first | refine k3 ?_ | refine k5 ?_)
   obtain rfl := Option.some.inj h
   exact end0 rfl (.refl _)
  ·
   refine o_s (.ref 1 4) (gy rfl rfl rfl h6) rfl rfl rfl ?_
   refine o_s (.t (.d (.seq 2 (List.map cS_api_Member p0.Members)))) (gy rfl rfl rfl h6) rfl rfl rfl ?_
   obtain ⟨x7, h8, h⟩ := bind_some h
   refine o_ca (fc_R27_Right _ _ h8) (gy rfl rfl rfl h6) rfl rfl rfl rfl rfl rfl rfl (.cons (.refl _) .nil) rfl rfl ?_
   refine o_s (.t (.d (.lit (.bool (!x7))))) (gy rfl rfl rfl h6) rfl rfl rfl ?_
   refine o_pk (.t (.d (.lit (.bool (!x7))))) (b := false) h6 (g0 rfl) rfl rfl rfl rfl rfl ?_
   refine o_nil ?_
   repeat (first | refine k1 ?_ | refine k4 ?_)
   rcases bif_some h with ⟨h9, h⟩ | ⟨h9, h⟩
   ·
    refine c_t h9 rfl ?_
    refine c_sr ?_
    refine o_s (.t (.d (.lit (.bool false)))) (g0 rfl) rfl rfl rfl ?_
    refine o_nil ?_
    repeat (first | refine k1 ?_ | refine k4 ?_)
    refine c_ret ?_
    repeat (first | refine k3 ?_ | refine k5 ?_)
    obtain rfl := Option.some.inj h
    exact end0 rfl (.refl _)
   ·
    refine c_f h9 rfl ?_
    refine c_skip ?_
    repeat (first | refine k1 ?_ | refine k4 ?_)
    refine c_seq ?_
    refine c_sr ?_
    refine o_s (.ref 1 1) (g0 rfl) rfl rfl rfl ?_
    refine o_s (.t (.d (.lit (.int .i64 p0.Seq)))) (g0 rfl) rfl rfl rfl ?_
    refine o_s (.t (.d (.lit (.bool (decide (p0.Seq < 1)))))) (g0 rfl) rfl rfl rfl ?_
    refine o_s (.t (.d (.lit (.bool (decide (p0.Seq < 1)))))) (g0 rfl) rfl rfl rfl ?_
    rcases bif_some h with ⟨h10, h⟩ | ⟨h10, h⟩
    ·
     refine o_skip rfl rfl rfl h10 rfl rfl ?_
     refine o_skip rfl rfl rfl h10 rfl rfl ?_
     refine o_skip rfl rfl rfl h10 rfl rfl ?_
     refine o_pk (.t (.d (.lit (.bool true)))) (b := true) h10 (g0 rfl) rfl rfl rfl rfl rfl ?_
     refine o_s (.t (.d (.lit (.bool true)))) (g0 rfl) rfl rfl rfl ?_
     refine o_skip rfl rfl rfl rfl rfl rfl ?_
     refine o_skip rfl rfl rfl rfl rfl rfl ?_
     refine o_skip rfl rfl rfl rfl rfl rfl ?_
     refine o_pk (.t (.d (.lit (.bool true)))) (b := true) rfl (g0 rfl) rfl rfl rfl rfl rfl ?_
     refine o_s (.t (.d (.lit (.bool true)))) (g0 rfl) rfl rfl rfl ?_
     refine o_skip rfl rfl rfl rfl rfl rfl ?_
     refine o_skip rfl rfl rfl rfl rfl rfl ?_
     refine o_skip rfl rfl rfl rfl rfl rfl ?_
     refine o_skip rfl rfl rfl rfl rfl rfl ?_
     refine o_skip rfl rfl rfl rfl rfl rfl ?_
     refine o_pk (.t (.d (.lit (.bool true)))) (b := true) rfl (g0 rfl) rfl rfl rfl rfl rfl ?_
     refine o_nil ?_
     repeat (first | refine k1 ?_ | refine k4 ?_)
     refine c_t rfl rfl ?_
     refine c_sr ?_
     refine o_s (.t (.d (.lit (.bool false)))) (g0 rfl) rfl rfl rfl ?_
     refine o_nil ?_
     repeat (first | refine k1 ?_ | refine k4 ?_)
     refine c_ret ?_
     repeat (first | refine k3 ?_ | refine k5 ?_)
     obtain rfl := Option.some.inj h
     exact end0 rfl (.refl _)
    ·
     refine o_s (.ref 1 1) (gy rfl rfl rfl h10) rfl rfl rfl ?_
     refine o_s (.t (.d (.lit (.int .i64 p0.Seq)))) (gy rfl rfl rfl h10) rfl rfl rfl ?_
     refine o_s (.t (.d (.lit (.bool (decide (p0.Seq > 1099511627776)))))) (gy rfl rfl rfl h10) rfl rfl rfl ?_
     refine o_pk (.t (.d (.lit (.bool (decide (p0.Seq > 1099511627776)))))) (b := false) h10 (g0 rfl) rfl rfl rfl rfl rfl ?_
     refine o_s (.t (.d (.lit (.bool (decide (p0.Seq > 1099511627776)))))) (g0 rfl) rfl rfl rfl ?_
     rcases bif_some h with ⟨h11, h⟩ | ⟨h11, h⟩
     ·
      refine o_skip rfl rfl rfl h11 rfl rfl ?_
      refine o_skip rfl rfl rfl h11 rfl rfl ?_
      refine o_skip rfl rfl rfl h11 rfl rfl ?_
      refine o_pk (.t (.d (.lit (.bool true)))) (b := true) h11 (g0 rfl) rfl rfl rfl rfl rfl ?_
      refine o_s (.t (.d (.lit (.bool true)))) (g0 rfl) rfl rfl rfl ?_
      refine o_skip rfl rfl rfl rfl rfl rfl ?_
      refine o_skip rfl rfl rfl rfl rfl rfl ?_
      refine o_skip rfl rfl rfl rfl rfl rfl ?_
      refine o_skip rfl rfl rfl rfl rfl rfl ?_
      refine o_skip rfl rfl rfl rfl rfl rfl ?_
      refine o_pk (.t (.d (.lit (.bool true)))) (b := true) rfl (g0 rfl) rfl rfl rfl rfl rfl ?_
      refine o_nil ?_
      repeat (first | refine k1 ?_ | refine k4 ?_)
      refine c_t rfl rfl ?_
      refine c_sr ?_
      refine o_s (.t (.d (.lit (.bool false)))) (g0 rfl) rfl rfl rfl ?_
      refine o_nil ?_
      repeat (first | refine k1 ?_ | refine k4 ?_)
      refine c_ret ?_
      repeat (first | refine k3 ?_ | refine k5 ?_)
      obtain rfl := Option.some.inj h
      exact end0 rfl (.refl _)
     ·
      refine o_s (.ref 1 5) (gy rfl rfl rfl h11) rfl rfl rfl ?_
      refine o_s (.t (.d (.lit (.int .i64 p0.Cut)))) (gy rfl rfl rfl h11) rfl rfl rfl ?_
      refine o_s (.t (.d (.lit (.bool (decide (p0.Cut < 0)))))) (gy rfl rfl rfl h11) rfl rfl rfl ?_
      refine o_pk (.t (.d (.lit (.bool (decide (p0.Cut < 0)))))) (b := false) h11 (g0 rfl) rfl rfl rfl rfl rfl ?_
      refine o_s (.t (.d (.lit (.bool (decide (p0.Cut < 0)))))) (g0 rfl) rfl rfl rfl ?_
      rcases bif_some h with ⟨h12, h⟩ | ⟨h12, h⟩
      ·
       refine o_skip rfl rfl rfl h12 rfl rfl ?_
       refine o_skip rfl rfl rfl h12 rfl rfl ?_
       refine o_skip rfl rfl rfl h12 rfl rfl ?_
       refine o_skip rfl rfl rfl h12 rfl rfl ?_
       refine o_skip rfl rfl rfl h12 rfl rfl ?_
       refine o_pk (.t (.d (.lit (.bool true)))) (b := true) h12 (g0 rfl) rfl rfl rfl rfl rfl ?_
       refine o_nil ?_
       repeat (first | refine k1 ?_ | refine k4 ?_)
       refine c_t rfl rfl ?_
       refine c_sr ?_
       refine o_s (.t (.d (.lit (.bool false)))) (g0 rfl) rfl rfl rfl ?_
       refine o_nil ?_
       repeat (first | refine k1 ?_ | refine k4 ?_)
       refine c_ret ?_
       repeat (first | refine k3 ?_ | refine k5 ?_)
       obtain rfl := Option.some.inj h
       exact end0 rfl (.refl _)
      ·
       refine o_s (.ref 1 5) (gy rfl rfl rfl h12) rfl rfl rfl ?_
       refine o_s (.t (.d (.lit (.int .i64 p0.Cut)))) (gy rfl rfl rfl h12) rfl rfl rfl ?_
       refine o_s (.ref 1 1) (gy rfl rfl rfl h12) rfl rfl rfl ?_
       refine o_s (.t (.d (.lit (.int .i64 p0.Seq)))) (gy rfl rfl rfl h12) rfl rfl rfl ?_
       refine o_s (.t (.d (.lit (.bool (decide (p0.Cut > p0.Seq)))))) (gy rfl rfl rfl h12) rfl rfl rfl ?_
       refine o_pk (.t (.d (.lit (.bool (decide (p0.Cut > p0.Seq)))))) (b := false) h12 (g0 rfl) rfl rfl rfl rfl rfl ?_
       refine o_nil ?_
       repeat (first | refine k1 ?_ | refine k4 ?_)
       rcases bif_some h with ⟨h13, h⟩ | ⟨h13, h⟩
       ·
        refine c_t h13 rfl ?_
        refine c_sr ?_
        refine o_s (.t (.d (.lit (.bool false)))) (g0 rfl) rfl rfl rfl ?_
        refine o_nil ?_
        repeat (first | refine k1 ?_ | refine k4 ?_)
        refine c_ret ?_
        repeat (first | refine k3 ?_ | refine k5 ?_)
        obtain rfl := Option.some.inj h
        exact end0 rfl (.refl _)
       ·
        refine c_f h13 rfl ?_
        refine c_skip ?_
        repeat (first | refine k1 ?_ | refine k4 ?_)
        refine c_cut (fun (_ : Unit) => [(1, .box [.d (.lit (.string ⟨⟨p0.Folder⟩⟩)), .d (.lit (.int .i64 p0.Seq)), .d (.seq 1 (bytesD p0.Prev)), .d (.lit (.string ⟨⟨p0.Parent⟩⟩)), .d (.seq 2 (List.map cS_api_Member p0.Members)), .d (.lit (.int .i64 p0.Cut)), .d (.lit (.bool p0.Gone)), .d (.lit (.string ⟨⟨p0.By⟩⟩))])]) (fun (_ : Unit) => m_R28_May_j1 p0 = some r) ?_ ?_
        ·
         refine c_sr ?_
         refine o_s (.ref 1 1) (g0 rfl) rfl rfl rfl ?_
         refine o_s (.t (.d (.lit (.int .i64 p0.Seq)))) (g0 rfl) rfl rfl rfl ?_
         refine o_s (.t (.d (.lit (.bool (p0.Seq == 1))))) (g0 rfl) rfl rfl rfl ?_
         refine o_s (.t (.d (.lit (.bool (p0.Seq == 1))))) (g0 rfl) rfl rfl rfl ?_
         rcases bif_some h with ⟨h18, h⟩ | ⟨h18, h⟩
         ·
          refine o_s (.ref 1 2) (gy rfl rfl rfl h18) rfl rfl rfl ?_
          refine o_s (.t (.d (.seq 1 (bytesD p0.Prev)))) (gy rfl rfl rfl h18) rfl rfl rfl ?_
          refine o_c (gy rfl rfl rfl h18) rfl rfl rfl (lenE _ _) trivial ?_
          refine o_s (.t (.d (.lit (.bool (decide ((p0.Prev.length : Int) > 0)))))) (gy rfl rfl rfl h18) rfl rfl rfl ?_
          refine o_pk (.t (.d (.lit (.bool (decide ((p0.Prev.length : Int) > 0)))))) (b := true) h18 (g0 rfl) rfl rfl rfl rfl rfl ?_
          refine o_s (.t (.d (.lit (.bool (decide ((p0.Prev.length : Int) > 0)))))) (g0 rfl) rfl rfl rfl ?_
          rcases bif_some h with ⟨h19, h⟩ | ⟨h19, h⟩
          ·
           refine o_skip rfl rfl rfl h19 rfl rfl ?_
           refine o_skip rfl rfl rfl h19 rfl rfl ?_
           refine o_skip rfl rfl rfl h19 rfl rfl ?_
           refine o_skip rfl rfl rfl h19 rfl rfl ?_
           refine o_un rfl rfl rfl rfl rfl ?_
           refine o_un rfl rfl rfl rfl rfl ?_
           refine o_un rfl rfl rfl rfl rfl ?_
           refine o_un rfl rfl rfl rfl rfl ?_
           refine o_un rfl rfl rfl rfl rfl ?_
           refine o_un rfl rfl rfl rfl rfl ?_
           refine o_un rfl rfl rfl rfl rfl ?_
           refine o_un rfl rfl rfl rfl rfl ?_
           refine o_un rfl rfl rfl rfl rfl ?_
           refine o_un rfl rfl rfl rfl rfl ?_
           refine o_skip rfl rfl rfl h19 rfl rfl ?_
           refine o_pk (.t (.d (.lit (.bool true)))) (b := true) h19 (g0 rfl) rfl rfl rfl rfl rfl ?_
           refine o_nil ?_
           repeat (first | refine k1 ?_ | refine k4 ?_)
           refine c_t rfl rfl ?_
           refine c_sr ?_
           refine o_s (.t (.d (.lit (.bool false)))) (g0 rfl) rfl rfl rfl ?_
           refine o_nil ?_
           repeat (first | refine k1 ?_ | refine k4 ?_)
           refine c_ret ?_
           repeat (first | refine k3 ?_ | refine k5 ?_)
           obtain rfl := Option.some.inj h
           exact end0 rfl (.refl _)
          ·
           refine o_s (.ref 1 1) (gy rfl rfl rfl h19) rfl rfl rfl ?_
           refine o_s (.t (.d (.lit (.int .i64 p0.Seq)))) (gy rfl rfl rfl h19) rfl rfl rfl ?_
           refine o_s (.t (.d (.lit (.bool (decide (p0.Seq > 1)))))) (gy rfl rfl rfl h19) rfl rfl rfl ?_
           refine o_s (.t (.d (.lit (.bool (decide (p0.Seq > 1)))))) (gy rfl rfl rfl h19) rfl rfl rfl ?_
           rcases bif_some h with ⟨h20, h⟩ | ⟨h20, h⟩
           ·
            refine o_s (.ref 1 2) (gy rfl rfl rfl h20) rfl rfl rfl ?_
            refine o_s (.t (.d (.seq 1 (bytesD p0.Prev)))) (gy rfl rfl rfl h20) rfl rfl rfl ?_
            refine o_c (gy rfl rfl rfl h20) rfl rfl rfl (lenE _ _) trivial ?_
            refine o_s (.t (.d (.lit (.bool ((p0.Prev.length : Int) == 0))))) (gy rfl rfl rfl h20) rfl rfl rfl ?_
            refine o_s (.t (.d (.lit (.bool ((p0.Prev.length : Int) == 0))))) (gy rfl rfl rfl h20) rfl rfl rfl ?_
            rcases bif_some h with ⟨h21, h⟩ | ⟨h21, h⟩
            ·
             refine o_skip rfl rfl rfl h21 rfl rfl ?_
             refine o_skip rfl rfl rfl h21 rfl rfl ?_
             refine o_skip rfl rfl rfl h21 rfl rfl ?_
             refine o_skip rfl rfl rfl h21 rfl rfl ?_
             refine o_pk (.t (.d (.lit (.bool true)))) (b := true) h21 (gy rfl rfl rfl h20) rfl rfl rfl rfl rfl ?_
             refine o_pk (.t (.d (.lit (.bool true)))) (b := true) h20 (gy rfl rfl rfl h19) rfl rfl rfl rfl rfl ?_
             refine o_pk (.t (.d (.lit (.bool true)))) (b := false) h19 (g0 rfl) rfl rfl rfl rfl rfl ?_
             refine o_nil ?_
             repeat (first | refine k1 ?_ | refine k4 ?_)
             refine c_t rfl rfl ?_
             refine c_sr ?_
             refine o_s (.t (.d (.lit (.bool false)))) (g0 rfl) rfl rfl rfl ?_
             refine o_nil ?_
             repeat (first | refine k1 ?_ | refine k4 ?_)
             refine c_ret ?_
             repeat (first | refine k3 ?_ | refine k5 ?_)
             obtain rfl := Option.some.inj h
             exact end0 rfl (.refl _)
            ·
             refine o_s (.ref 1 2) (gy rfl rfl rfl h21) rfl rfl rfl ?_
             refine o_s (.t (.d (.seq 1 (bytesD p0.Prev)))) (gy rfl rfl rfl h21) rfl rfl rfl ?_
             refine o_c (gy rfl rfl rfl h21) rfl rfl rfl (lenE _ _) trivial ?_
             refine o_s (.t (.d (.lit (.bool (decide ((p0.Prev.length : Int) > 64)))))) (gy rfl rfl rfl h21) rfl rfl rfl ?_
             refine o_pk (.t (.d (.lit (.bool (decide ((p0.Prev.length : Int) > 64)))))) (b := false) h21 (gy rfl rfl rfl h20) rfl rfl rfl rfl rfl ?_
             refine o_pk (.t (.d (.lit (.bool (decide ((p0.Prev.length : Int) > 64)))))) (b := true) h20 (gy rfl rfl rfl h19) rfl rfl rfl rfl rfl ?_
             refine o_pk (.t (.d (.lit (.bool (decide ((p0.Prev.length : Int) > 64)))))) (b := false) h19 (g0 rfl) rfl rfl rfl rfl rfl ?_
             refine o_nil ?_
             repeat (first | refine k1 ?_ | refine k4 ?_)
             rcases bif_some h with ⟨h22, h⟩ | ⟨h22, h⟩
             ·
              refine c_t h22 rfl ?_
              refine c_sr ?_
              refine o_s (.t (.d (.lit (.bool false)))) (g0 rfl) rfl rfl rfl ?_
              refine o_nil ?_
              repeat (first | refine k1 ?_ | refine k4 ?_)
              refine c_ret ?_
              repeat (first | refine k3 ?_ | refine k5 ?_)
              obtain rfl := Option.some.inj h
              exact end0 rfl (.refl _)
             ·
              refine c_f h22 rfl ?_
              refine c_skip ?_
              repeat (first | refine k1 ?_ | refine k4 ?_)
              exact ⟨(), h, ⟨(.refl _), trivial⟩, rfl⟩
           ·
            refine o_skip rfl rfl rfl h20 rfl rfl ?_
            refine o_skip rfl rfl rfl h20 rfl rfl ?_
            refine o_skip rfl rfl rfl h20 rfl rfl ?_
            refine o_skip rfl rfl rfl h20 rfl rfl ?_
            refine o_skip rfl rfl rfl h20 rfl rfl ?_
            refine o_un rfl rfl rfl rfl rfl ?_
            refine o_un rfl rfl rfl rfl rfl ?_
            refine o_un rfl rfl rfl rfl rfl ?_
            refine o_un rfl rfl rfl rfl rfl ?_
            refine o_skip rfl rfl rfl h20 rfl rfl ?_
            refine o_pk (.t (.d (.lit (.bool false)))) (b := false) h20 (gy rfl rfl rfl h19) rfl rfl rfl rfl rfl ?_
            refine o_pk (.t (.d (.lit (.bool false)))) (b := false) h19 (g0 rfl) rfl rfl rfl rfl rfl ?_
            refine o_nil ?_
            repeat (first | refine k1 ?_ | refine k4 ?_)
            refine c_f rfl rfl ?_
            refine c_skip ?_
            repeat (first | refine k1 ?_ | refine k4 ?_)
            exact ⟨(), h, ⟨(.refl _), trivial⟩, rfl⟩
         ·
          refine o_skip rfl rfl rfl h18 rfl rfl ?_
          refine o_skip rfl rfl rfl h18 rfl rfl ?_
          refine o_skip rfl rfl rfl h18 rfl rfl ?_
          refine o_skip rfl rfl rfl h18 rfl rfl ?_
          refine o_pk (.t (.d (.lit (.bool false)))) (b := false) h18 (g0 rfl) rfl rfl rfl rfl rfl ?_
          refine o_s (.t (.d (.lit (.bool false)))) (g0 rfl) rfl rfl rfl ?_
          refine o_s (.ref 1 1) (gy rfl rfl rfl rfl) rfl rfl rfl ?_
          refine o_s (.t (.d (.lit (.int .i64 p0.Seq)))) (gy rfl rfl rfl rfl) rfl rfl rfl ?_
          refine o_s (.t (.d (.lit (.bool (decide (p0.Seq > 1)))))) (gy rfl rfl rfl rfl) rfl rfl rfl ?_
          refine o_s (.t (.d (.lit (.bool (decide (p0.Seq > 1)))))) (gy rfl rfl rfl rfl) rfl rfl rfl ?_
          rcases bif_some h with ⟨h23, h⟩ | ⟨h23, h⟩
          ·
           refine o_s (.ref 1 2) (gy rfl rfl rfl h23) rfl rfl rfl ?_
           refine o_s (.t (.d (.seq 1 (bytesD p0.Prev)))) (gy rfl rfl rfl h23) rfl rfl rfl ?_
           refine o_c (gy rfl rfl rfl h23) rfl rfl rfl (lenE _ _) trivial ?_
           refine o_s (.t (.d (.lit (.bool ((p0.Prev.length : Int) == 0))))) (gy rfl rfl rfl h23) rfl rfl rfl ?_
           refine o_s (.t (.d (.lit (.bool ((p0.Prev.length : Int) == 0))))) (gy rfl rfl rfl h23) rfl rfl rfl ?_
           rcases bif_some h with ⟨h24, h⟩ | ⟨h24, h⟩
           ·
            refine o_skip rfl rfl rfl h24 rfl rfl ?_
            refine o_skip rfl rfl rfl h24 rfl rfl ?_
            refine o_skip rfl rfl rfl h24 rfl rfl ?_
            refine o_skip rfl rfl rfl h24 rfl rfl ?_
            refine o_pk (.t (.d (.lit (.bool true)))) (b := true) h24 (gy rfl rfl rfl h23) rfl rfl rfl rfl rfl ?_
            refine o_pk (.t (.d (.lit (.bool true)))) (b := true) h23 (gy rfl rfl rfl rfl) rfl rfl rfl rfl rfl ?_
            refine o_pk (.t (.d (.lit (.bool true)))) (b := false) rfl (g0 rfl) rfl rfl rfl rfl rfl ?_
            refine o_nil ?_
            repeat (first | refine k1 ?_ | refine k4 ?_)
            refine c_t rfl rfl ?_
            refine c_sr ?_
            refine o_s (.t (.d (.lit (.bool false)))) (g0 rfl) rfl rfl rfl ?_
            refine o_nil ?_
            repeat (first | refine k1 ?_ | refine k4 ?_)
            refine c_ret ?_
            repeat (first | refine k3 ?_ | refine k5 ?_)
            obtain rfl := Option.some.inj h
            exact end0 rfl (.refl _)
           ·
            refine o_s (.ref 1 2) (gy rfl rfl rfl h24) rfl rfl rfl ?_
            refine o_s (.t (.d (.seq 1 (bytesD p0.Prev)))) (gy rfl rfl rfl h24) rfl rfl rfl ?_
            refine o_c (gy rfl rfl rfl h24) rfl rfl rfl (lenE _ _) trivial ?_
            refine o_s (.t (.d (.lit (.bool (decide ((p0.Prev.length : Int) > 64)))))) (gy rfl rfl rfl h24) rfl rfl rfl ?_
            refine o_pk (.t (.d (.lit (.bool (decide ((p0.Prev.length : Int) > 64)))))) (b := false) h24 (gy rfl rfl rfl h23) rfl rfl rfl rfl rfl ?_
            refine o_pk (.t (.d (.lit (.bool (decide ((p0.Prev.length : Int) > 64)))))) (b := true) h23 (gy rfl rfl rfl rfl) rfl rfl rfl rfl rfl ?_
            refine o_pk (.t (.d (.lit (.bool (decide ((p0.Prev.length : Int) > 64)))))) (b := false) rfl (g0 rfl) rfl rfl rfl rfl rfl ?_
            refine o_nil ?_
            repeat (first | refine k1 ?_ | refine k4 ?_)
            rcases bif_some h with ⟨h25, h⟩ | ⟨h25, h⟩
            ·
             refine c_t h25 rfl ?_
             refine c_sr ?_
             refine o_s (.t (.d (.lit (.bool false)))) (g0 rfl) rfl rfl rfl ?_
             refine o_nil ?_
             repeat (first | refine k1 ?_ | refine k4 ?_)
             refine c_ret ?_
             repeat (first | refine k3 ?_ | refine k5 ?_)
             obtain rfl := Option.some.inj h
             exact end0 rfl (.refl _)
            ·
             refine c_f h25 rfl ?_
             refine c_skip ?_
             repeat (first | refine k1 ?_ | refine k4 ?_)
             exact ⟨(), h, ⟨(.refl _), trivial⟩, rfl⟩
          ·
           refine o_skip rfl rfl rfl h23 rfl rfl ?_
           refine o_skip rfl rfl rfl h23 rfl rfl ?_
           refine o_skip rfl rfl rfl h23 rfl rfl ?_
           refine o_skip rfl rfl rfl h23 rfl rfl ?_
           refine o_skip rfl rfl rfl h23 rfl rfl ?_
           refine o_un rfl rfl rfl rfl rfl ?_
           refine o_un rfl rfl rfl rfl rfl ?_
           refine o_un rfl rfl rfl rfl rfl ?_
           refine o_un rfl rfl rfl rfl rfl ?_
           refine o_skip rfl rfl rfl h23 rfl rfl ?_
           refine o_pk (.t (.d (.lit (.bool false)))) (b := false) h23 (gy rfl rfl rfl rfl) rfl rfl rfl rfl rfl ?_
           refine o_pk (.t (.d (.lit (.bool false)))) (b := false) rfl (g0 rfl) rfl rfl rfl rfl rfl ?_
           refine o_nil ?_
           repeat (first | refine k1 ?_ | refine k4 ?_)
           refine c_f rfl rfl ?_
           refine c_skip ?_
           repeat (first | refine k1 ?_ | refine k4 ?_)
           exact ⟨(), h, ⟨(.refl _), trivial⟩, rfl⟩
        ·
         rintro ⟨⟩ h
         refine c_sr ?_
         refine o_s (.ref 1 3) (g0 rfl) rfl rfl rfl ?_
         refine o_s (.t (.d (.lit (.string ⟨⟨p0.Parent⟩⟩)))) (g0 rfl) rfl rfl rfl ?_
         refine o_c (g0 rfl) rfl rfl rfl (congrArg (fun z => A.t (.d (.lit (.bool z)))) (str_beqL _ _)) trivial ?_
         refine o_s (.t (.d (.lit (.bool (p0.Parent == []))))) (g0 rfl) rfl rfl rfl ?_
         rcases bif_some h with ⟨h14, h⟩ | ⟨h14, h⟩
         ·
          refine o_skip rfl rfl rfl h14 rfl rfl ?_
          refine o_skip rfl rfl rfl h14 rfl rfl ?_
          refine o_skip rfl rfl rfl h14 rfl rfl ?_
          refine o_skip rfl rfl rfl h14 rfl rfl ?_
          refine o_un rfl rfl rfl rfl rfl ?_
          refine o_un rfl rfl rfl rfl rfl ?_
          refine o_un rfl rfl rfl rfl rfl ?_
          refine o_un rfl rfl rfl rfl rfl ?_
          refine o_un rfl rfl rfl rfl rfl ?_
          refine o_skip rfl rfl rfl h14 rfl rfl ?_
          refine o_pk (.t (.d (.lit (.bool true)))) (b := true) h14 (g0 rfl) rfl rfl rfl rfl rfl ?_
          refine o_s (.t (.d (.lit (.bool true)))) (g0 rfl) rfl rfl rfl ?_
          refine o_nil ?_
          repeat (first | refine k1 ?_ | refine k4 ?_)
          refine c_ret ?_
          repeat (first | refine k3 ?_ | refine k5 ?_)
          obtain rfl := Option.some.inj h
          exact end0 rfl (.refl _)
         ·
          refine o_s (.ref 1 3) (gy rfl rfl rfl h14) rfl rfl rfl ?_
          refine o_s (.t (.d (.lit (.string ⟨⟨p0.Parent⟩⟩)))) (gy rfl rfl rfl h14) rfl rfl rfl ?_
          obtain ⟨x15, h16, h⟩ := bind_some h
          refine o_ca (fc_R25_Name _ _ h16) (gy rfl rfl rfl h14) rfl rfl rfl rfl rfl rfl rfl (.cons (.refl _) .nil) rfl rfl ?_
          refine o_s (.t (.d (.lit (.bool x15)))) (gy rfl rfl rfl h14) rfl rfl rfl ?_
          rcases bif_some h with ⟨h17, h⟩ | ⟨h17, h⟩
          ·
           refine o_s (.ref 1 3) (gy rfl rfl rfl h17) rfl rfl rfl ?_
           refine o_s (.t (.d (.lit (.string ⟨⟨p0.Parent⟩⟩)))) (gy rfl rfl rfl h17) rfl rfl rfl ?_
           refine o_s (.ref 1 0) (gy rfl rfl rfl h17) rfl rfl rfl ?_
           refine o_s (.t (.d (.lit (.string ⟨⟨p0.Folder⟩⟩)))) (gy rfl rfl rfl h17) rfl rfl rfl ?_
           refine o_c (gy rfl rfl rfl h17) rfl rfl rfl (congrArg (fun z => A.t (.d (.lit (.bool (!z))))) (str_beqL _ _)) trivial ?_
           refine o_pk (.t (.d (.lit (.bool (!(p0.Parent == p0.Folder)))))) (b := true) h17 (gy rfl rfl rfl h14) rfl rfl rfl rfl rfl ?_
           refine o_pk (.t (.d (.lit (.bool (!(p0.Parent == p0.Folder)))))) (b := false) h14 (g0 rfl) rfl rfl rfl rfl rfl ?_
           refine o_s (.t (.d (.lit (.bool (!(p0.Parent == p0.Folder)))))) (g0 rfl) rfl rfl rfl ?_
           refine o_nil ?_
           repeat (first | refine k1 ?_ | refine k4 ?_)
           refine c_ret ?_
           repeat (first | refine k3 ?_ | refine k5 ?_)
           obtain rfl := Option.some.inj h
           exact end0 rfl (.refl _)
          ·
           refine o_skip rfl rfl rfl h17 rfl rfl ?_
           refine o_skip rfl rfl rfl h17 rfl rfl ?_
           refine o_skip rfl rfl rfl h17 rfl rfl ?_
           refine o_skip rfl rfl rfl h17 rfl rfl ?_
           refine o_skip rfl rfl rfl h17 rfl rfl ?_
           refine o_pk (.t (.d (.lit (.bool false)))) (b := false) h17 (gy rfl rfl rfl h14) rfl rfl rfl rfl rfl ?_
           refine o_pk (.t (.d (.lit (.bool false)))) (b := false) h14 (g0 rfl) rfl rfl rfl rfl rfl ?_
           refine o_s (.t (.d (.lit (.bool false)))) (g0 rfl) rfl rfl rfl ?_
           refine o_nil ?_
           repeat (first | refine k1 ?_ | refine k4 ?_)
           refine c_ret ?_
           repeat (first | refine k3 ?_ | refine k5 ?_)
           obtain rfl := Option.some.inj h
           exact end0 rfl (.refl _)

theorem fc_R27_Same (p0 : (List S_api_Member)) (p1 : (List S_api_Member)) (r : Bool) (h : m_R27_Same p0 p1 = some r) : FC Try.prog 19 [.t (.d (.seq 2 (List.map cS_api_Member p0))), .t (.d (.seq 2 (List.map cS_api_Member p1)))] [] (.t (.d (.lit (.bool r)))) := by
 refine fc_mk (rs := [.tmp 4]) (n := 26) Try.func19 rfl rfl (Nat.le_of_ble_eq_true rfl) rfl (pins := []) rfl (L := [(0, .t (.d (.seq 2 (List.map cS_api_Member p0)))), (1, .t (.d (.seq 2 (List.map cS_api_Member p1))))]) rfl ?_
 refine c_sr ?_
 refine o_s (.t (.d (.lit (.bool false)))) (g0 rfl) rfl rfl rfl ?_
 refine o_nil ?_
 repeat (first | refine k1 ?_ | refine k4 ?_)
 refine c_seq ?_
 refine c_sr ?_
 refine o_s (.t (.d (.seq 2 (List.map cS_api_Member p0)))) (g0 rfl) rfl rfl rfl ?_
 refine o_c (g0 rfl) rfl rfl rfl (lenE _ _) trivial ?_
 refine o_s (.t (.d (.seq 2 (List.map cS_api_Member p1)))) (g0 rfl) rfl rfl rfl ?_
 refine o_c (g0 rfl) rfl rfl rfl (lenE _ _) trivial ?_
 refine o_s (.t (.d (.lit (.bool ((p0.length : Int) != (p1.length : Int)))))) (g0 rfl) rfl rfl rfl ?_
 refine o_nil ?_
 repeat (first | refine k1 ?_ | refine k4 ?_)
 rcases bif_some h with ⟨h1, h⟩ | ⟨h1, h⟩
 ·
  refine c_t h1 rfl ?_
  refine c_sr ?_
  refine o_s (.t (.d (.lit (.bool false)))) (g0 rfl) rfl rfl rfl ?_
  refine o_nil ?_
  repeat (first | refine k1 ?_ | refine k4 ?_)
  refine c_ret ?_
  repeat (first | refine k3 ?_ | refine k5 ?_)
  obtain rfl := Option.some.inj h
  exact end0 rfl (.refl _)
 ·
  refine c_f h1 rfl ?_
  refine c_skip ?_
  repeat (first | refine k1 ?_ | refine k4 ?_)
  refine c_seq ?_
  refine c_sr ?_
  refine o_s (.t (.d (.lit (.int .i64 0)))) (g0 rfl) rfl rfl rfl ?_
  refine o_nil ?_
  repeat (first | refine k1 ?_ | refine k4 ?_)
  refine c_block ?_
  refine c_fuel (fun (z2 : Int) => [(0, .t (.d (.seq 2 (List.map cS_api_Member p0)))), (1, .t (.d (.seq 2 (List.map cS_api_Member p1)))), (5, .t (.d (.lit (.int .i64 z2))))]) (fun nl1 => (fun (z2 : Int) => m_R27_Same_l1 p0 p1 nl1 z2 = some r)) (p0.length + 1) 0 h ⟨(.refl _), ⟨(.refl _), ⟨(.refl _), trivial⟩⟩⟩ rfl ?_
  rintro nl1 z2 h
  cases nl1 with
  | zero => exact none_ne h
  | succ nl1 =>
   refine c_seq ?_
   refine c_sr ?_
   refine o_s (.t (.d (.lit (.int .i64 z2)))) (g0 rfl) rfl rfl rfl ?_
   refine o_s (.t (.d (.seq 2 (List.map cS_api_Member p0)))) (g0 rfl) rfl rfl rfl ?_
   refine o_c (g0 rfl) rfl rfl rfl (lenE _ _) trivial ?_
   refine o_s (.t (.d (.lit (.bool (decide (z2 < (p0.length : Int))))))) (g0 rfl) rfl rfl rfl ?_
   refine o_nil ?_
   repeat (first | refine k1 ?_ | refine k4 ?_)
   rcases bif_some h with ⟨h3, h⟩ | ⟨h3, h⟩
   ·
    refine c_t h3 rfl ?_
    refine c_skip ?_
    repeat (first | refine k1 ?_ | refine k4 ?_)
    refine c_seq ?_
    refine c_block ?_
    refine c_seq ?_
    refine c_draw mixed (by kernel_rfl) ?_
    refine d_s (.t (.d (.seq 2 (List.map cS_api_Member p0)))) rfl (dg0 rfl) rfl rfl rfl rfl ?_
    refine d_s (.t (.d (.lit (.int .i64 z2)))) rfl (dg0 rfl) rfl rfl rfl rfl ?_
    obtain ⟨x4, h5, h⟩ := bind_some h
    refine d_c rfl (dg0 rfl) rfl rfl rfl rfl (idxE h5) (idxC h5) ?_
    refine d_s (.t (.agg [.lit (.string ⟨⟨x4.Name⟩⟩), .lit (.int .i64 x4.Role)])) rfl (dg0 rfl) rfl rfl rfl rfl ?_
    refine d_s (.t (.d (.seq 2 (List.map cS_api_Member p1)))) rfl (dg0 rfl) rfl rfl rfl rfl ?_
    refine d_s (.t (.d (.lit (.int .i64 z2)))) rfl (dg0 rfl) rfl rfl rfl rfl ?_
    obtain ⟨x6, h7, h⟩ := bind_some h
    refine d_c rfl (dg0 rfl) rfl rfl rfl rfl (idxE h7) (idxC h7) ?_
    refine d_s (.t (.agg [.lit (.string ⟨⟨x6.Name⟩⟩), .lit (.int .i64 x6.Role)])) rfl (dg0 rfl) rfl rfl rfl rfl ?_
    refine d_eqs true (b' := ((x4.Name == x6.Name) && ((x4.Role == x6.Role) && true))) (andE (str_beqL _ _) (andE rfl rfl)) rfl (dg0 rfl) rfl rfl rfl rfl rfl (by kernel_rfl) ((!((x4.Name == x6.Name) && ((x4.Role == x6.Role) && true)))) (by cases ((x4.Name == x6.Name) && ((x4.Role == x6.Role) && true)) <;> rfl) ?_
    refine d_nil (by kernel_rfl) ?_
    repeat (first | refine k1 ?_ | refine k2 ?_ | refine k3 ?_ | refine k4 ?_ | refine k5 ?_ | refine k6 ?_ | refine k7 rfl ?_)
    rcases bif_some h with ⟨h8, h⟩ | ⟨h8, h⟩
    ·
     refine c_t h8 rfl ?_
     refine c_sr ?_
     refine o_s (.t (.d (.lit (.bool false)))) (g0 rfl) rfl rfl rfl ?_
     refine o_nil ?_
     repeat (first | refine k1 ?_ | refine k4 ?_)
     refine c_ret ?_
     repeat (first | refine k3 ?_ | refine k5 ?_)
     obtain rfl := Option.some.inj h
     exact end0 rfl (.refl _)
    ·
     refine c_f h8 rfl ?_
     refine c_skip ?_
     repeat (first | refine k1 ?_ | refine k4 ?_)
     refine c_region ?_
     refine o_s (.t (.d (.lit (.int .i64 z2)))) (g0 rfl) rfl rfl rfl ?_
     refine o_s (.t (.d (.lit (.int .i64 (wi (z2 + 1)))))) (g0 rfl) rfl rfl rfl ?_
     refine o_s (.t (.d (.lit (.int .i64 (wi (z2 + 1)))))) (g0 rfl) rfl rfl rfl ?_
     refine o_nil ?_
     repeat (first | refine k1 ?_ | refine k4 ?_)
     exact ⟨nl1, (wi (z2 + 1)), Nat.lt_succ_self nl1, h, ⟨(.refl _), ⟨(.refl _), ⟨(.refl _), trivial⟩⟩⟩, rfl⟩
   ·
    refine c_f h3 rfl ?_
    refine c_exit ?_
    repeat (first | refine k1 ?_ | refine k2 ?_ | refine k3 ?_ | refine k4 ?_ | refine k5 ?_ | refine k6 ?_ | refine k7 rfl ?_)
    refine c_sr ?_
    refine o_s (.t (.d (.lit (.bool true)))) (g0 rfl) rfl rfl rfl ?_
    refine o_nil ?_
    repeat (first | refine k1 ?_ | refine k4 ?_)
    refine c_ret ?_
    repeat (first | refine k3 ?_ | refine k5 ?_)
    obtain rfl := Option.some.inj h
    exact end0 rfl (.refl _)

end Go.Proofs.Ytikaahmonocahaa
