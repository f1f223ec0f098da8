/-
 Walks of functions: each function does what its model tells. Printed by a program of this claim's own (gen.py) off the given translation.
-/
import Derived.Test.YtjomnccladjpgaaD11
import Derived.Test.YtjomnccladjpgaaD14
import Derived.Test.YtjomnccladjpgaaD12
import Derived.Test.YtjomnccladjpgaaD09
import Derived.Test.YtjomnccladjpgaaD08
import Derived.Test.YtjomnccladjpgaaD10
set_option linter.unusedVariables false
set_option linter.unusedSimpArgs false
namespace Go.Proofs.Ytjomnccladjpgaa
open Go Go.RowKit
set_option linter.unusedVariables false
set_option maxHeartbeats 4000000
set_option maxRecDepth 20000
theorem zEp (p0 : (Option Nat)) (p1 : Int) (w0 : Hp) (r : ((Option Nat) × Hp)) (h : zB3 p0 p1 w0 = some r) : FCH Try.prog 43 [.t ((ptT 5 p0)), .t (.d (.lit (.int .i64 p1)))] [] [] (hpA w0) (hpA r.2) (.t ((ptT 7 r.1))) := by
 refine qY (rs := [.tmp 4]) (n := 9) [] Try.func43 rfl rfl (Nat.le_of_ble_eq_true rfl) rfl (pins := []) rfl (L := [(HK, .hp (hpA w0)), (0, .t ((ptT 5 p0))), (1, .i p1)]) rfl ?_
 refine c_sr ?_
 refine o_of (e := [(4, .t (.d (.lit (.pointer none))))]) (g0 rfl) (h_mv mR (.inr rfl) rfl rfl rfl) rfl ?_
 refine zB (c_sr ?_)
 rcases qQ h with ⟨h1, h⟩ | ⟨i2, h1, h⟩
 ·
  refine o_of (e := [(5, .t (.d (.lit (.pointer none))))]) (g0 rfl) (h_mv mR (.inl rfl) ((zM rfl).trans (zAE h1)) rfl rfl) rfl ?_
  refine o_1 (.i p1) rfl ?_
  refine o_of (e := [(7, .ag [.d (.lit (.pointer none)), .i p1])]) (g0 rfl) (h_bd mR rfl rfl rfl rfl) rfl ?_
  refine o_of (e := [(HK, .hp (hpA (w0.nw_ix (zAA.mk none p1)))), (8, .t (.hpt (cd 7 w0.ln_ix) 0))]) (g0 rfl) (h_box mR rfl rfl rfl rfl rfl (fr_ix _) (nw_ix _ (zAA.mk none p1))) rfl ?_
  refine o_of (e := [(4, .t (.hpt (cd 7 w0.ln_ix) 0))]) (g0 rfl) (h_mv mR (.inr rfl) rfl rfl rfl) rfl ?_
  refine zB (zJ ?_)
  obtain rfl := Option.some.inj h
  exact ⟨⟨_, rfl, .r⟩, trivial, rfl⟩
 refine o_of (e := [(5, .t (.hpt (cd 5 i2) 0))]) (g0 rfl) (h_mv mR (.inl rfl) ((zM rfl).trans (yA h1)) rfl rfl) rfl ?_
 refine o_1 (.i p1) rfl ?_
 refine o_of (e := [(7, .ag [.hpt (cd 5 i2) 0, .i p1])]) (g0 rfl) (h_bd mR rfl rfl rfl rfl) rfl ?_
 refine o_of (e := [(HK, .hp (hpA (w0.nw_ix (zAA.mk (some i2) p1)))), (8, .t (.hpt (cd 7 w0.ln_ix) 0))]) (g0 rfl) (h_box mR rfl rfl rfl rfl rfl (fr_ix _) (nw_ix _ (zAA.mk (some i2) p1))) rfl ?_
 refine o_of (e := [(4, .t (.hpt (cd 7 w0.ln_ix) 0))]) (g0 rfl) (h_mv mR (.inr rfl) rfl rfl rfl) rfl ?_
 refine zB (zJ ?_)
 obtain rfl := Option.some.inj h
 exact ⟨⟨_, rfl, .r⟩, trivial, rfl⟩
theorem zBJ (p0 : (List UInt8)) (r : (Int × Bool)) (h : yQ p0 = some r) : FC Try.prog 87 [.t (.d (.lit (.string ⟨⟨p0⟩⟩)))] [] (.tup [.d (.lit (.int .i64 r.1)), .d (.lit (.bool r.2))]) := by
 refine zDl (rs := [.tmp 2, .tmp 3]) (n := 40) Try.func87 rfl rfl (Nat.le_of_ble_eq_true rfl) rfl (pins := []) rfl (L := [(0, .s p0)]) rfl ?_
 refine c_sr ?_
 refine o_m2 (.i 0) (.b false) rfl ?_
 refine zB (zL (c_sr ?_))
 refine o_m4 (.s p0) (.i (p0.length : Int)) (.b (decide ((p0.length : Int) < 1))) (.b (decide ((p0.length : Int) < 1))) rfl ?_
 rcases zF h with ⟨h1, h⟩ | ⟨h1, h⟩
 ·
  refine zC rfl rfl rfl h1 rfl rfl ?_
  refine zC rfl rfl rfl h1 rfl rfl ?_
  refine zC rfl rfl rfl h1 rfl rfl ?_
  refine o_pk (.b true) (b := true) h1 (g0 rfl) rfl rfl rfl rfl rfl ?_
  refine zB ?_
  refine c_t rfl rfl ?_
  refine c_sr ?_
  refine o_m2 (.i 0) (.b false) rfl ?_
  refine zB (zJ ?_)
  obtain rfl := Option.some.inj h
  exact end0 rfl (.tup (.cons .r (.cons .r .nil)))
 refine o_s (.s p0) (gy rfl rfl rfl h1) rfl rfl rfl ?_
 refine o_s (.i (p0.length : Int)) (gy rfl rfl rfl h1) rfl rfl rfl ?_
 refine o_s (.b (decide ((p0.length : Int) > 40))) (gy rfl rfl rfl h1) rfl rfl rfl ?_
 refine o_pk (.b (decide ((p0.length : Int) > 40))) (b := false) h1 (g0 rfl) rfl rfl rfl rfl rfl ?_
 refine zB ?_
 rcases zF h with ⟨h2, h⟩ | ⟨h2, h⟩
 ·
  refine c_t h2 rfl ?_
  refine c_sr ?_
  refine o_m2 (.i 0) (.b false) rfl ?_
  refine zB (zJ ?_)
  obtain rfl := Option.some.inj h
  exact end0 rfl (.tup (.cons .r (.cons .r .nil)))
 refine c_f h2 rfl ?_
 refine zK (c_sr ?_)
 refine o_1 (.t (.d (.lit (.int .u32 0)))) rfl ?_
 refine zB ?_
 refine c_cut (fun (y3 : Int) => [(4, .t (.d (.lit (.int .u32 y3))))]) (fun (y3 : Int) => zCl y3 = some r) ?_ ?_
 ·
  refine c_sr ?_
  refine o_m3 (.s p0) (.i (p0.length : Int)) (.i 0) rfl ?_
  refine zB (qC ?_)
  refine c_fuel (fun (q : Int × Int) => [(0, .s p0), (4, .t (.d (.lit (.int .u32 q.1)))), (15, .i (p0.length : Int)), (16, .i q.2)]) (fun nl2 => (fun (q : Int × Int) => zAo p0 nl2 q.1 q.2 = some r)) (p0.length + 1) (0, 0) h ⟨.r, .r, .r, .r, trivial⟩ rfl ?_
  rintro nl2 ⟨z4, z5⟩ h
  cases nl2 with
  | zero => exact qV h
  | succ nl2 =>
   refine c_sr ?_
   refine o_1 (.b (decide (z5 < (p0.length : Int)))) rfl ?_
   refine zB (zL ?_)
   rcases zF h with ⟨h6, h⟩ | ⟨h6, h⟩
   ·
    refine c_t h6 rfl ?_
    refine zK (zL (qC (c_sr ?_)))
    refine o_m2 (.i z5) (.i z5) rfl ?_
    refine zB (zL (c_sr ?_))
    refine o_m2 (.s p0) (.i z5) rfl ?_
    obtain ⟨x7, h8, h⟩ := bind_some h
    refine o_c (g0 rfl) rfl rfl rfl (zGo h8) (zGi h8) ?_
    refine o_m2 (.b (decide ((x7.toNat : Int) < 33))) (.b (decide ((x7.toNat : Int) < 33))) rfl ?_
    rcases zF h with ⟨h9, h⟩ | ⟨h9, h⟩
    ·
     refine zC rfl rfl rfl h9 rfl rfl ?_
     refine zC rfl rfl rfl h9 rfl rfl ?_
     refine zC rfl rfl rfl h9 rfl rfl ?_
     refine zC rfl rfl rfl h9 rfl rfl ?_
     refine o_pk (.b true) (b := true) h9 (g0 rfl) rfl rfl rfl rfl rfl ?_
     refine zB ?_
     refine c_t rfl rfl ?_
     refine c_sr ?_
     refine o_m2 (.i 0) (.b false) rfl ?_
     refine zB (zJ ?_)
     obtain rfl := Option.some.inj h
     exact end0 rfl (.tup (.cons .r (.cons .r .nil)))
    refine o_s (.s p0) (gy rfl rfl rfl h9) rfl rfl rfl ?_
    refine o_s (.i z5) (gy rfl rfl rfl h9) rfl rfl rfl ?_
    obtain ⟨x10, h11, h⟩ := bind_some h
    refine o_c (gy rfl rfl rfl h9) rfl rfl rfl (zGo h11) (zGi h11) ?_
    refine o_s (.b (decide ((x10.toNat : Int) > 126))) (gy rfl rfl rfl h9) rfl rfl rfl ?_
    refine o_pk (.b (decide ((x10.toNat : Int) > 126))) (b := false) h9 (g0 rfl) rfl rfl rfl rfl rfl ?_
    refine zB ?_
    rcases zF h with ⟨h12, h⟩ | ⟨h12, h⟩
    ·
     refine c_t h12 rfl ?_
     refine c_sr ?_
     refine o_m2 (.i 0) (.b false) rfl ?_
     refine zB (zJ ?_)
     obtain rfl := Option.some.inj h
     exact end0 rfl (.tup (.cons .r (.cons .r .nil)))
    refine c_f h12 rfl ?_
    refine zK (zS ?_)
    refine o_m4 (.t (.d (.lit (.int .u32 z4)))) (.t (.d (.lit (.int .u32 (IntKind.u32.wrap (31 * z4)))))) (.s p0) (.i z5) rfl ?_
    obtain ⟨x13, h14, h⟩ := bind_some h
    refine o_c (g0 rfl) rfl rfl rfl (zGo h14) (zGi h14) ?_
    refine o_c (g0 rfl) rfl rfl rfl (congrArg (fun z => A.t (.d (.lit (.int .u32 z)))) (u32_u8 _)) trivial ?_
    refine o_m2 (.t (.d (.lit (.int .u32 (IntKind.u32.wrap ((IntKind.u32.wrap (31 * z4)) + (x13.toNat : Int))))))) (.t (.d (.lit (.int .u32 (IntKind.u32.wrap ((IntKind.u32.wrap (31 * z4)) + (x13.toNat : Int))))))) rfl ?_
    refine zB (zS ?_)
    refine o_m2 (.i (wi (z5 + 1))) (.i (wi (z5 + 1))) rfl ?_
    refine zB ?_
    exact ⟨nl2, ((IntKind.u32.wrap ((IntKind.u32.wrap (31 * z4)) + (x13.toNat : Int))), (wi (z5 + 1))), Nat.lt_succ_self nl2, h, ⟨.r, .r, .r, .r, trivial⟩, rfl⟩
   refine c_f h6 rfl ?_
   refine zAs ?_
   exact ⟨z4, h, ⟨.r, trivial⟩, rfl⟩
 rintro y3 h
 refine c_sr ?_
 refine o_m5 (.t (.d (.lit (.int .u32 y3)))) (.t (.d (.lit (.int .u32 (Int.tmod y3 64))))) (.i (wi (Int.tmod y3 64))) (.i (wi (Int.tmod y3 64))) (.b true) rfl ?_
 refine zB (zJ ?_)
 obtain rfl := Option.some.inj h
 exact end0 rfl (.tup (.cons .r (.cons .r .nil)))
theorem zBl (p0 : (Option Nat)) (p1 : Int) (w0 : Hp) (r : ((List UInt8) × Int)) (h : qJ p0 p1 w0 = some r) : FCH Try.prog 121 [.t ((ptT 7 p0)), .t (.d (.lit (.int .i64 p1)))] [] [] (hpA w0) (hpA w0) (.tup [.d (.seq 1 (qE r.1)), .d (.lit (.int .i64 r.2))]) := by
 refine qY (rs := [.tmp 4, .tmp 5]) (n := 23) [] Try.func121 rfl rfl (Nat.le_of_ble_eq_true rfl) rfl (pins := []) rfl (L := [(HK, .hp (hpA w0)), (0, .t ((ptT 7 p0))), (1, .i p1)]) rfl ?_
 refine c_sr ?_
 refine o_m2 (.n) (.i 0) rfl ?_
 refine zB (zL (c_sr ?_))
 refine o_of (e := [(8, .t ((ptT 7 p0)))]) (g0 rfl) (h_mv mR (.inl rfl) (zM rfl) rfl rfl) rfl ?_
 rcases qQ h with ⟨h1, h⟩ | ⟨i2, h1, h⟩
 ·
  refine o_of (e := [(9, .b true)]) (g0 rfl) (h_pn mR (ng := false) rfl rfl rfl (zDp rfl h1) rfl rfl) rfl ?_
  refine zB ?_
  refine c_t rfl rfl ?_
  refine c_sr ?_
  refine o_m2 (.n) (.i 1) rfl ?_
  refine zB (zJ ?_)
  obtain rfl := Option.some.inj h
  exact ⟨⟨_, rfl, (.tup (.cons (.d (.nil _)) (.cons .r .nil)))⟩, trivial, rfl⟩
 refine o_of (e := [(9, .b false)]) (g0 rfl) (h_pn mR (ng := false) rfl rfl rfl (zDm rfl h1) rfl rfl) rfl ?_
 refine zB ?_
 refine c_f rfl rfl ?_
 refine zK (c_sr ?_)
 refine o_of (e := [(11, .t (.hpt (cd 7 i2) 0))]) (g0 rfl) (h_mv mR (.inl rfl) ((zM rfl).trans (yA h1)) rfl rfl) rfl ?_
 refine o_of (e := [(12, .t (.hpt (cd 7 i2) 0))]) (g0 rfl) (h_nc mR rfl rfl rfl rfl rfl) rfl ?_
 refine o_of (e := [(13, .t (.hpt (cd 7 i2) 0))]) (g0 rfl) (h_fd mR rfl rfl rfl rfl rfl rfl) rfl ?_
 obtain ⟨x3, h4, h⟩ := bind_some h
 refine o_of (e := [(14, .t ((ptT 5 x3.t_)))]) (g0 rfl) (h_ld mR rfl rfl rfl rfl (zHt h4) rfl (zA0 _ _) rfl rfl) rfl ?_
 refine o_1 (.i p1) rfl ?_
 obtain ⟨x5, h6, h⟩ := bind_some h
 refine o_of (e := [(16, .tup [.y x5.1, .i x5.2])]) (g0 rfl) (qL mR rfl (σ := []) (fr := []) rfl rfl rfl rfl rfl rfl rfl (zF6 _ _ w0 _ h6) (zD _) rfl rfl rfl rfl (.cons (yJ rfl) (.cons (.plain .r rfl) .nil)) rfl (.tup (.cons (.flat rfl) (.cons (.flat rfl) .nil)))) rfl ?_
 refine o_m5 (.tup [.y x5.1, .i x5.2]) (.y x5.1) (.i x5.2) (.y x5.1) (.i x5.2) rfl ?_
 refine zB ?_
 refine zEZ (fun (y7 : Int) => [(6, .y x5.1), (7, .i y7), (HK, .hp (hpA w0))]) (fun (y7 : Int) => zBZ x5 y7 = some r) ?_ ?_
 ·
  refine c_sr ?_
  refine o_m2 (.i x5.2) (.b (x5.2 == 31)) rfl ?_
  refine zB ?_
  rcases zF h with ⟨h8, h⟩ | ⟨h8, h⟩
  ·
   refine c_t h8 rfl ?_
   refine zS ?_
   refine o_1 (.i 11) rfl ?_
   refine zB ?_
   exact ⟨11, [], h, rfl, ⟨.inr ⟨_, rfl, zD _⟩, by (repeat (first | exact ObP.nil | refine ObP.cons (.inl rfl) ?_ | refine ObP.cons (.inr (fun _ => rfl)) ?_ | refine ObP.cons (.inr (qW (zP _ _))) ?_ | refine ObP.cons (.inr (zAJ _ _)) ?_))⟩, ⟨.r, .r, .r, trivial⟩, rfl⟩
  refine c_f h8 rfl ?_
  refine zK ?_
  exact ⟨x5.2, [], h, rfl, ⟨.inr ⟨_, rfl, zD _⟩, by (repeat (first | exact ObP.nil | refine ObP.cons (.inl rfl) ?_ | refine ObP.cons (.inr (fun _ => rfl)) ?_ | refine ObP.cons (.inr (qW (zP _ _))) ?_ | refine ObP.cons (.inr (zAJ _ _)) ?_))⟩, ⟨.r, .r, .r, trivial⟩, rfl⟩
 rintro y7 h
 refine c_sr ?_
 refine o_m4 (.y x5.1) (.i y7) (.y x5.1) (.i y7) rfl ?_
 refine zB (zJ ?_)
 obtain rfl := Option.some.inj h
 exact ⟨⟨_, rfl, (.tup (.cons .r (.cons .r .nil)))⟩, trivial, rfl⟩
theorem zC0 (p0 : (List UInt8)) (r : Int) (h : zAS p0 = some r) : FC Try.prog 122 [.t (.d (.seq 1 (qE p0)))] [] (.t (.d (.lit (.int .i64 r)))) := by
 refine zDl (rs := [.tmp 2]) (n := 13) Try.func122 rfl rfl (Nat.le_of_ble_eq_true rfl) rfl (pins := []) rfl (L := [(0, .y p0)]) rfl ?_
 refine c_sr ?_
 refine o_1 (.i 0) rfl ?_
 refine zB (c_sr ?_)
 refine o_1 (.y p0) rfl ?_
 obtain ⟨x1, h2, h⟩ := bind_some h
 refine o_ca (zDO _ _ h2) (g0 rfl) rfl rfl rfl rfl rfl rfl rfl (.cons .r .nil) rfl rfl ?_
 refine o_m5 (.tup [.i x1.1, .i x1.2]) (.i x1.1) (.i x1.2) (.i x1.1) (.i x1.2) rfl ?_
 refine zB (zL (c_sr ?_))
 refine o_m2 (.i x1.2) (.b (x1.2 != 0)) rfl ?_
 refine zB ?_
 rcases zF h with ⟨h3, h⟩ | ⟨h3, h⟩
 ·
  refine c_t h3 rfl ?_
  refine c_sr ?_
  refine o_1 (.i (-1)) rfl ?_
  refine zB (zJ ?_)
  obtain rfl := Option.some.inj h
  exact end0 rfl .r
 refine c_f h3 rfl ?_
 refine zK (c_sr ?_)
 refine o_m2 (.i x1.1) (.i x1.1) rfl ?_
 refine zB (zJ ?_)
 obtain rfl := Option.some.inj h
 exact end0 rfl .r
theorem zBs (p0 : (Option Nat)) (p1 : zW) (w0 : Hp) (r : (Int × Int)) (h : yV p0 p1 w0 = some r) : FCH Try.prog 91 [.t ((ptT 7 p0)), .t (.agg [.lit (.int .i64 p1.home_), .lit (.int .i64 p1.off_)])] [] [] (hpA w0) (hpA w0) (.tup [.d (.lit (.int .i64 r.1)), .d (.lit (.int .i64 r.2))]) := by
 refine qY (rs := [.tmp 4, .tmp 5]) (n := 26) [] Try.func91 rfl rfl (Nat.le_of_ble_eq_true rfl) rfl (pins := []) rfl (L := [(HK, .hp (hpA w0)), (0, .t ((ptT 7 p0))), (1, .t (.agg [.i p1.home_, .i p1.off_]))]) rfl ?_
 refine c_sr ?_
 refine o_m3 (.box [.i p1.home_, .i p1.off_]) (.i 0) (.i 0) rfl ?_
 refine zB (c_sr ?_)
 refine o_of (e := [(9, .t ((ptT 7 p0)))]) (g0 rfl) (h_mv mR (.inl rfl) (zM rfl) rfl rfl) rfl ?_
 refine o_m2 (.ref 3 0) (.i p1.home_) rfl ?_
 obtain ⟨x1, h2, h⟩ := bind_some h
 refine o_of (e := [(12, .tup [.y x1.1, .i x1.2])]) (g0 rfl) (qL mR rfl (σ := []) (fr := []) rfl rfl rfl rfl rfl rfl rfl (zBl _ _ w0 _ h2) (zD _) rfl rfl rfl rfl (.cons (yJ rfl) (.cons (.plain .r rfl) .nil)) rfl (.tup (.cons (.flat rfl) (.cons (.flat rfl) .nil)))) rfl ?_
 refine o_m5 (.tup [.y x1.1, .i x1.2]) (.y x1.1) (.i x1.2) (.y x1.1) (.i x1.2) rfl ?_
 refine zB (zL (c_sr ?_))
 refine o_m2 (.i x1.2) (.b (x1.2 != 0)) rfl ?_
 refine zB ?_
 rcases zF h with ⟨h3, h⟩ | ⟨h3, h⟩
 ·
  refine c_t h3 rfl ?_
  refine c_sr ?_
  refine o_m3 (.i x1.2) (.i 0) (.i x1.2) rfl ?_
  refine zB (zJ ?_)
  obtain rfl := Option.some.inj h
  exact ⟨⟨_, rfl, (.tup (.cons .r (.cons .r .nil)))⟩, trivial, rfl⟩
 refine c_f h3 rfl ?_
 refine zK (c_sr ?_)
 refine o_m6 (.y x1.1) (.ref 3 1) (.i p1.off_) (.ref 3 1) (.i p1.off_) (.i (wi (p1.off_ + 4))) rfl ?_
 obtain ⟨x4, h5, h⟩ := bind_some h
 refine o_c (g0 rfl) rfl rfl rfl (cutE (c := cU8) h5) (cutC (c := cU8) h5) ?_
 obtain ⟨x6, h7, h⟩ := bind_some h
 refine o_ca (zC0 _ _ h7) (g0 rfl) rfl rfl rfl rfl rfl rfl rfl (.cons .r .nil) rfl rfl ?_
 refine o_m2 (.i x6) (.i 0) rfl ?_
 refine zB (zJ ?_)
 obtain rfl := Option.some.inj h
 exact ⟨⟨_, rfl, (.tup (.cons .r (.cons .r .nil)))⟩, trivial, rfl⟩
theorem zBD (p0 : (Option Nat)) (p1 : Int) (w0 : Hp) (r : zW) (h : yL p0 p1 w0 = some r) : FCH Try.prog 92 [.t ((ptT 7 p0)), .t (.d (.lit (.int .i64 p1)))] [] [] (hpA w0) (hpA w0) (.t (.agg [.lit (.int .i64 r.home_), .lit (.int .i64 r.off_)])) := by
 refine qY (rs := [.cell 4 148]) (n := 19) [] Try.func92 rfl rfl (Nat.le_of_ble_eq_true rfl) rfl (pins := []) rfl (L := [(HK, .hp (hpA w0)), (0, .t ((ptT 7 p0))), (1, .i p1)]) rfl ?_
 refine c_sr ?_
 refine o_1 (.box [.i 0, .i 0]) rfl ?_
 refine zB (zL (c_sr ?_))
 refine o_of (e := [(5, .t ((ptT 7 p0)))]) (g0 rfl) (h_mv mR (.inl rfl) (zM rfl) rfl rfl) rfl ?_
 rcases qQ h with ⟨h1, h⟩ | ⟨i2, h1, h⟩
 ·
  refine o_of (e := [(6, .b true)]) (g0 rfl) (h_pn mR (ng := false) rfl rfl rfl (zDp rfl h1) rfl rfl) rfl ?_
  refine zB ?_
  refine c_t rfl rfl ?_
  refine c_sr ?_
  refine o_1 (.t (.agg [.i 0, .i 0])) rfl ?_
  refine o_st (.box [.i 0, .i 0]) (g0 rfl) rfl rfl rfl ?_
  refine zB (zJ ?_)
  obtain rfl := Option.some.inj h
  exact ⟨⟨_, rfl, .r⟩, trivial, rfl⟩
 refine o_of (e := [(6, .b false)]) (g0 rfl) (h_pn mR (ng := false) rfl rfl rfl (zDm rfl h1) rfl rfl) rfl ?_
 refine zB ?_
 refine c_f rfl rfl ?_
 refine zK (c_sr ?_)
 refine o_of (e := [(8, .t (.hpt (cd 7 i2) 0))]) (g0 rfl) (h_mv mR (.inl rfl) ((zM rfl).trans (yA h1)) rfl rfl) rfl ?_
 refine o_of (e := [(9, .t (.hpt (cd 7 i2) 0))]) (g0 rfl) (h_nc mR rfl rfl rfl rfl rfl) rfl ?_
 refine o_of (e := [(10, .t (.hpt (cd 7 i2) 1))]) (g0 rfl) (h_fd mR rfl rfl rfl rfl rfl rfl) rfl ?_
 obtain ⟨x3, h4, h⟩ := bind_some h
 refine o_of (e := [(11, .i x3.table_)]) (g0 rfl) (h_ld mR rfl rfl rfl rfl (zHt h4) rfl rfl rfl rfl) rfl ?_
 refine o_m7 (.i p1) (.i (wi (Int.tdiv p1 16))) (.i (wi (x3.table_ + (wi (Int.tdiv p1 16))))) (.i p1) (.i (Int.tmod p1 16)) (.i (wi (4 * (Int.tmod p1 16)))) (.t (.agg [.i (wi (x3.table_ + (wi (Int.tdiv p1 16)))), .i (wi (4 * (Int.tmod p1 16)))])) rfl ?_
 refine o_st (.box [.i (wi (x3.table_ + (wi (Int.tdiv p1 16)))), .i (wi (4 * (Int.tmod p1 16)))]) (g0 rfl) rfl rfl rfl ?_
 refine zB (zJ ?_)
 obtain rfl := Option.some.inj h
 exact ⟨⟨_, rfl, .r⟩, trivial, rfl⟩
theorem zEb (p0 : zA) (r : Bool) (h : zCq p0 = some r) : FC Try.prog 89 [.t (.agg [.lit (.string ⟨⟨p0.Key⟩⟩), .lit (.int .i64 p0.Version), .lit (.int .i64 p0.Len), .lit (.int .i64 p0.First)])] [] (.t (.d (.lit (.bool r)))) := by
 refine zDl (rs := [.tmp 2]) (n := 42) Try.func89 rfl rfl (Nat.le_of_ble_eq_true rfl) rfl (pins := []) rfl (L := [(0, .t (.agg [.s p0.Key, .i p0.Version, .i p0.Len, .i p0.First]))]) rfl ?_
 refine c_sr ?_
 refine o_m2 (.box [.s p0.Key, .i p0.Version, .i p0.Len, .i p0.First]) (.b false) rfl ?_
 refine zB (c_sr ?_)
 refine o_m2 (.ref 1 0) (.s p0.Key) rfl ?_
 obtain ⟨x1, h2, h⟩ := bind_some h
 refine o_ca (zBJ _ _ h2) (g0 rfl) rfl rfl rfl rfl rfl rfl rfl (.cons .r .nil) rfl rfl ?_
 refine o_m5 (.tup [.i x1.1, .b x1.2]) (.i x1.1) (.b x1.2) (.i x1.1) (.b x1.2) rfl ?_
 refine zB (c_sr ?_)
 refine o_m2 (.b x1.2) (.b x1.2) rfl ?_
 rcases zF h with ⟨h3, h⟩ | ⟨h3, h⟩
 ·
  refine o_s (.ref 1 1) (gy rfl rfl rfl h3) rfl rfl rfl ?_
  refine o_s (.i p0.Version) (gy rfl rfl rfl h3) rfl rfl rfl ?_
  refine o_s (.b (decide (p0.Version ≥ 0))) (gy rfl rfl rfl h3) rfl rfl rfl ?_
  refine o_pk (.b (decide (p0.Version ≥ 0))) (b := true) h3 (g0 rfl) rfl rfl rfl rfl rfl ?_
  refine o_1 (.b (decide (p0.Version ≥ 0))) rfl ?_
  rcases zF h with ⟨h4, h⟩ | ⟨h4, h⟩
  ·
   refine o_s (.ref 1 1) (gy rfl rfl rfl h4) rfl rfl rfl ?_
   refine o_s (.i p0.Version) (gy rfl rfl rfl h4) rfl rfl rfl ?_
   refine o_s (.b (decide (p0.Version ≤ 4611686018427387904))) (gy rfl rfl rfl h4) rfl rfl rfl ?_
   refine o_pk (.b (decide (p0.Version ≤ 4611686018427387904))) (b := true) h4 (g0 rfl) rfl rfl rfl rfl rfl ?_
   refine o_1 (.b (decide (p0.Version ≤ 4611686018427387904))) rfl ?_
   rcases zF h with ⟨h5, h⟩ | ⟨h5, h⟩
   ·
    refine o_s (.ref 1 2) (gy rfl rfl rfl h5) rfl rfl rfl ?_
    refine o_s (.i p0.Len) (gy rfl rfl rfl h5) rfl rfl rfl ?_
    refine o_s (.b (decide (p0.Len ≥ 0))) (gy rfl rfl rfl h5) rfl rfl rfl ?_
    refine o_pk (.b (decide (p0.Len ≥ 0))) (b := true) h5 (g0 rfl) rfl rfl rfl rfl rfl ?_
    refine o_1 (.b (decide (p0.Len ≥ 0))) rfl ?_
    rcases zF h with ⟨h6, h⟩ | ⟨h6, h⟩
    ·
     refine o_s (.ref 1 2) (gy rfl rfl rfl h6) rfl rfl rfl ?_
     refine o_s (.i p0.Len) (gy rfl rfl rfl h6) rfl rfl rfl ?_
     refine o_s (.b (decide (p0.Len ≤ 1024))) (gy rfl rfl rfl h6) rfl rfl rfl ?_
     refine o_pk (.b (decide (p0.Len ≤ 1024))) (b := true) h6 (g0 rfl) rfl rfl rfl rfl rfl ?_
     refine o_1 (.b (decide (p0.Len ≤ 1024))) rfl ?_
     rcases zF h with ⟨h7, h⟩ | ⟨h7, h⟩
     ·
      refine o_s (.ref 1 3) (gy rfl rfl rfl h7) rfl rfl rfl ?_
      refine o_s (.i p0.First) (gy rfl rfl rfl h7) rfl rfl rfl ?_
      refine o_s (.b (decide (p0.First ≥ 0))) (gy rfl rfl rfl h7) rfl rfl rfl ?_
      refine o_pk (.b (decide (p0.First ≥ 0))) (b := true) h7 (g0 rfl) rfl rfl rfl rfl rfl ?_
      refine o_1 (.b (decide (p0.First ≥ 0))) rfl ?_
      rcases zF h with ⟨h8, h⟩ | ⟨h8, h⟩
      ·
       refine o_s (.ref 1 3) (gy rfl rfl rfl h8) rfl rfl rfl ?_
       refine o_s (.i p0.First) (gy rfl rfl rfl h8) rfl rfl rfl ?_
       refine o_s (.b (decide (p0.First ≤ 16384))) (gy rfl rfl rfl h8) rfl rfl rfl ?_
       refine o_pk (.b (decide (p0.First ≤ 16384))) (b := true) h8 (g0 rfl) rfl rfl rfl rfl rfl ?_
       refine o_1 (.b (decide (p0.First ≤ 16384))) rfl ?_
       refine zB (zJ ?_)
       obtain rfl := Option.some.inj h
       exact end0 rfl .r
      refine zC rfl rfl rfl h8 rfl rfl ?_
      refine zC rfl rfl rfl h8 rfl rfl ?_
      refine zC rfl rfl rfl h8 rfl rfl ?_
      refine o_pk (.b false) (b := false) h8 (g0 rfl) rfl rfl rfl rfl rfl ?_
      refine o_1 (.b false) rfl ?_
      refine zB (zJ ?_)
      obtain rfl := Option.some.inj h
      exact end0 rfl .r
     refine zC rfl rfl rfl h7 rfl rfl ?_
     refine zC rfl rfl rfl h7 rfl rfl ?_
     refine zC rfl rfl rfl h7 rfl rfl ?_
     refine o_pk (.b false) (b := false) h7 (g0 rfl) rfl rfl rfl rfl rfl ?_
     refine o_1 (.b false) rfl ?_
     refine zC rfl rfl rfl rfl rfl rfl ?_
     refine zC rfl rfl rfl rfl rfl rfl ?_
     refine zC rfl rfl rfl rfl rfl rfl ?_
     refine o_pk (.b false) (b := false) rfl (g0 rfl) rfl rfl rfl rfl rfl ?_
     refine o_1 (.b false) rfl ?_
     refine zB (zJ ?_)
     obtain rfl := Option.some.inj h
     exact end0 rfl .r
    refine zC rfl rfl rfl h6 rfl rfl ?_
    refine zC rfl rfl rfl h6 rfl rfl ?_
    refine zC rfl rfl rfl h6 rfl rfl ?_
    refine o_pk (.b false) (b := false) h6 (g0 rfl) rfl rfl rfl rfl rfl ?_
    refine o_1 (.b false) rfl ?_
    refine zC rfl rfl rfl rfl rfl rfl ?_
    refine zC rfl rfl rfl rfl rfl rfl ?_
    refine zC rfl rfl rfl rfl rfl rfl ?_
    refine o_pk (.b false) (b := false) rfl (g0 rfl) rfl rfl rfl rfl rfl ?_
    refine o_1 (.b false) rfl ?_
    refine zC rfl rfl rfl rfl rfl rfl ?_
    refine zC rfl rfl rfl rfl rfl rfl ?_
    refine zC rfl rfl rfl rfl rfl rfl ?_
    refine o_pk (.b false) (b := false) rfl (g0 rfl) rfl rfl rfl rfl rfl ?_
    refine o_1 (.b false) rfl ?_
    refine zB (zJ ?_)
    obtain rfl := Option.some.inj h
    exact end0 rfl .r
   refine zC rfl rfl rfl h5 rfl rfl ?_
   refine zC rfl rfl rfl h5 rfl rfl ?_
   refine zC rfl rfl rfl h5 rfl rfl ?_
   refine o_pk (.b false) (b := false) h5 (g0 rfl) rfl rfl rfl rfl rfl ?_
   refine o_1 (.b false) rfl ?_
   refine zC rfl rfl rfl rfl rfl rfl ?_
   refine zC rfl rfl rfl rfl rfl rfl ?_
   refine zC rfl rfl rfl rfl rfl rfl ?_
   refine o_pk (.b false) (b := false) rfl (g0 rfl) rfl rfl rfl rfl rfl ?_
   refine o_1 (.b false) rfl ?_
   refine zC rfl rfl rfl rfl rfl rfl ?_
   refine zC rfl rfl rfl rfl rfl rfl ?_
   refine zC rfl rfl rfl rfl rfl rfl ?_
   refine o_pk (.b false) (b := false) rfl (g0 rfl) rfl rfl rfl rfl rfl ?_
   refine o_1 (.b false) rfl ?_
   refine zC rfl rfl rfl rfl rfl rfl ?_
   refine zC rfl rfl rfl rfl rfl rfl ?_
   refine zC rfl rfl rfl rfl rfl rfl ?_
   refine o_pk (.b false) (b := false) rfl (g0 rfl) rfl rfl rfl rfl rfl ?_
   refine o_1 (.b false) rfl ?_
   refine zB (zJ ?_)
   obtain rfl := Option.some.inj h
   exact end0 rfl .r
  refine zC rfl rfl rfl h4 rfl rfl ?_
  refine zC rfl rfl rfl h4 rfl rfl ?_
  refine zC rfl rfl rfl h4 rfl rfl ?_
  refine o_pk (.b false) (b := false) h4 (g0 rfl) rfl rfl rfl rfl rfl ?_
  refine o_1 (.b false) rfl ?_
  refine zC rfl rfl rfl rfl rfl rfl ?_
  refine zC rfl rfl rfl rfl rfl rfl ?_
  refine zC rfl rfl rfl rfl rfl rfl ?_
  refine o_pk (.b false) (b := false) rfl (g0 rfl) rfl rfl rfl rfl rfl ?_
  refine o_1 (.b false) rfl ?_
  refine zC rfl rfl rfl rfl rfl rfl ?_
  refine zC rfl rfl rfl rfl rfl rfl ?_
  refine zC rfl rfl rfl rfl rfl rfl ?_
  refine o_pk (.b false) (b := false) rfl (g0 rfl) rfl rfl rfl rfl rfl ?_
  refine o_1 (.b false) rfl ?_
  refine zC rfl rfl rfl rfl rfl rfl ?_
  refine zC rfl rfl rfl rfl rfl rfl ?_
  refine zC rfl rfl rfl rfl rfl rfl ?_
  refine o_pk (.b false) (b := false) rfl (g0 rfl) rfl rfl rfl rfl rfl ?_
  refine o_1 (.b false) rfl ?_
  refine zC rfl rfl rfl rfl rfl rfl ?_
  refine zC rfl rfl rfl rfl rfl rfl ?_
  refine zC rfl rfl rfl rfl rfl rfl ?_
  refine o_pk (.b false) (b := false) rfl (g0 rfl) rfl rfl rfl rfl rfl ?_
  refine o_1 (.b false) rfl ?_
  refine zB (zJ ?_)
  obtain rfl := Option.some.inj h
  exact end0 rfl .r
 refine zC rfl rfl rfl h3 rfl rfl ?_
 refine zC rfl rfl rfl h3 rfl rfl ?_
 refine zC rfl rfl rfl h3 rfl rfl ?_
 refine o_pk (.b false) (b := false) h3 (g0 rfl) rfl rfl rfl rfl rfl ?_
 refine o_1 (.b false) rfl ?_
 refine zC rfl rfl rfl rfl rfl rfl ?_
 refine zC rfl rfl rfl rfl rfl rfl ?_
 refine zC rfl rfl rfl rfl rfl rfl ?_
 refine o_pk (.b false) (b := false) rfl (g0 rfl) rfl rfl rfl rfl rfl ?_
 refine o_1 (.b false) rfl ?_
 refine zC rfl rfl rfl rfl rfl rfl ?_
 refine zC rfl rfl rfl rfl rfl rfl ?_
 refine zC rfl rfl rfl rfl rfl rfl ?_
 refine o_pk (.b false) (b := false) rfl (g0 rfl) rfl rfl rfl rfl rfl ?_
 refine o_1 (.b false) rfl ?_
 refine zC rfl rfl rfl rfl rfl rfl ?_
 refine zC rfl rfl rfl rfl rfl rfl ?_
 refine zC rfl rfl rfl rfl rfl rfl ?_
 refine o_pk (.b false) (b := false) rfl (g0 rfl) rfl rfl rfl rfl rfl ?_
 refine o_1 (.b false) rfl ?_
 refine zC rfl rfl rfl rfl rfl rfl ?_
 refine zC rfl rfl rfl rfl rfl rfl ?_
 refine zC rfl rfl rfl rfl rfl rfl ?_
 refine o_pk (.b false) (b := false) rfl (g0 rfl) rfl rfl rfl rfl rfl ?_
 refine o_1 (.b false) rfl ?_
 refine zC rfl rfl rfl rfl rfl rfl ?_
 refine zC rfl rfl rfl rfl rfl rfl ?_
 refine zC rfl rfl rfl rfl rfl rfl ?_
 refine o_pk (.b false) (b := false) rfl (g0 rfl) rfl rfl rfl rfl rfl ?_
 refine o_1 (.b false) rfl ?_
 refine zB (zJ ?_)
 obtain rfl := Option.some.inj h
 exact end0 rfl .r
theorem zBd (p0 : (List UInt8)) (o0 n0 : Nat) (p1 : Int) (w0 : Hp) (r : (List UInt8)) (h : yO p0 o0 n0 p1 = some r) : FCH Try.prog 123 [.t (.view 0 o0 0 1 n0), .t (.d (.lit (.int .i64 p1)))] [.box (fl (dT cU8) p0)] [.box (fl (dT cU8) r)] (hpA w0) (hpA w0) (.tup []) := by
 refine qY (rs := []) (n := 16) [] Try.func123 rfl rfl (Nat.le_of_ble_eq_true rfl) rfl (pins := [OB + 0]) rfl (L := [(HK, .hp (hpA w0)), (OB + 0, .box (fl (dT cU8) p0)), (0, .t (.view 0 o0 0 1 n0)), (1, .i p1)]) rfl ?_
 refine c_sr ?_
 refine o_m2 (.i p1) (.t (.view 0 o0 0 1 n0)) rfl ?_
 refine o_of (e := [(9, .i ((n0 : Nat) : Int))]) (g0 rfl) (h_lln mR rfl rfl rfl rfl rfl rfl) rfl ?_
 obtain ⟨x1, h2, h⟩ := bind_some h
 refine o_ca (zGd _ _ _ h2) (g0 rfl) rfl rfl rfl rfl rfl rfl rfl (.cons .r (.cons .r .nil)) rfl rfl ?_
 refine o_m5 (.tup [.y x1.1, .i x1.2]) (.y x1.1) (.i x1.2) (.y x1.1) (.i x1.2) rfl ?_
 refine zB (zS ?_)
 refine o_m2 (.t (.view 0 o0 0 1 n0)) (.y x1.1) rfl ?_
 obtain ⟨x3, h4, h⟩ := bind_some h
 refine o_of (e := [((OB + 0), .box (fl (dT cU8) x3)), (15, .i ((min x1.1.length n0 : Nat) : Int))]) (g0 rfl) (h_cpy (cc := cU8) (yl := x1.1) mR rfl rfl rfl rfl rfl rfl (fun _ => rfl) rfl h4 rfl rfl rfl) rfl ?_
 obtain ⟨x5, h6, h⟩ := bind_some h
 have h6 : x3.length = p0.length := zAu h6
 refine zB ?_
 obtain rfl := Option.some.inj h
 exact ⟨⟨_, rfl, .r⟩, ⟨rfl, trivial⟩, rfl⟩
theorem zCB (p0 : zQ) (w0 : Hp) (r : (List UInt8)) (h : yR p0 = some r) : FCH Try.prog 93 [.t (.agg [.lit (.string ⟨⟨p0.Entry.Key⟩⟩), .lit (.int .i64 p0.Entry.Version), .lit (.int .i64 p0.Entry.Len), .lit (.int .i64 p0.Entry.First), .lit (.int .i64 p0.next_)])] [] [] (hpA w0) (hpA w0) (.t (.d (.seq 1 (qE r)))) := by
 refine qY (rs := [.tmp 2]) (n := 42) [0] Try.func93 rfl rfl (Nat.le_of_ble_eq_true rfl) rfl (pins := []) rfl (L := [(HK, .hp (hpA w0)), (OB + 0, .free), (0, .t (.agg [.s p0.Entry.Key, .i p0.Entry.Version, .i p0.Entry.Len, .i p0.Entry.First, .i p0.next_]))]) rfl ?_
 refine c_sr ?_
 refine o_m2 (.box [.s p0.Entry.Key, .i p0.Entry.Version, .i p0.Entry.Len, .i p0.Entry.First, .i p0.next_]) (.n) rfl ?_
 refine zB (c_sr ?_)
 obtain ⟨x1, h2, h⟩ := bind_some h
 refine o_of (e := [((OB + 0), .box (fl (dT cU8) (List.replicate x1 (0 : UInt8)))), (4, .t (.view 0 0 5 1 x1))]) (g0 rfl) (h_mkl mR rfl rfl rfl rfl rfl rfl rfl (by kernel_rfl) rfl h2 (zIV (c := cU8) (z := (0 : UInt8)) (by kernel_rfl) x1) rfl rfl rfl rfl) rfl ?_
 refine o_1 (.t (.view 0 0 5 1 x1)) rfl ?_
 refine zB (zL ?_)
 refine zAC zBM (by kernel_rfl) ?_
 refine d_s (.t (.view 0 0 5 1 x1)) rfl (dg0 rfl) rfl rfl rfl rfl ?_
 obtain ⟨x3, h4, h⟩ := bind_some h
 refine d_h0 [] (e := [(6, .t (.view 0 (0 + Int.toNat 0 * 1) 5 1 (Int.toNat 4 - Int.toNat 0)))]) (ks := [6]) rfl (dg0 rfl) rfl rfl (fun S' hM hok => zFB hM rfl rfl rfl rfl rfl rfl rfl (zBc h4) rfl rfl rfl (hok _ rfl rfl)) rfl ?_
 refine d_s (.ref 1 4) rfl (dg0 rfl) rfl rfl rfl rfl ?_
 refine d_s (.i p0.next_) rfl (dg0 rfl) rfl rfl rfl rfl ?_
 obtain ⟨x5, h6, h⟩ := bind_some h
 refine d_hm [OB + 0] (e := [((OB + 0), .box (fl (dT cU8) x5)), (9, .tup [])]) (ks := [(OB + 0), 9]) rfl (dg0 rfl) rfl rfl (fun S' hM hk hS hok => qL hM hk (σ := [0]) (fr := []) rfl rfl rfl (hok _ rfl rfl) rfl rfl rfl (zBd _ _ _ _ w0 _ h6) (zD _) rfl (by simp [A.flatO, zP]) (by simp [A.flatO, zP]) (cons_eq (hS (OB + 0) rfl) (rfl)) (.cons (zEm rfl rfl) (.cons (.plain .r rfl) .nil)) rfl (.tup .nil)) rfl ?_
 obtain ⟨x7, h8, h⟩ := bind_some h
 have h8 : x5.length = (List.replicate x1 (0 : UInt8)).length := zAu h8; simp only [List.length_set, List.length_replicate] at h8
 refine zAd (by kernel_rfl) ?_
 refine zL ?_
 refine zAC zBM (by kernel_rfl) ?_
 refine d_s (.t (.view 0 0 5 1 x1)) rfl (dg0 rfl) rfl rfl rfl rfl ?_
 obtain ⟨x9, h10, h⟩ := bind_some h
 refine d_h0 [] (e := [(11, .t (.view 0 (0 + Int.toNat 4 * 1) 5 1 (Int.toNat 12 - Int.toNat 4)))]) (ks := [11]) rfl (dg0 rfl) rfl rfl (fun S' hM hok => zFB hM rfl rfl rfl rfl rfl rfl rfl (zBc h10) rfl rfl rfl (hok _ rfl rfl)) rfl ?_
 refine d_s (.ref 1 0) rfl (dg0 rfl) rfl rfl rfl rfl ?_
 refine d_s (.ref 1 1) rfl (dg0 rfl) rfl rfl rfl rfl ?_
 refine d_s (.i p0.Entry.Version) rfl (dg0 rfl) rfl rfl rfl rfl ?_
 obtain ⟨x11, h12, h⟩ := bind_some h
 refine d_hm [OB + 0] (e := [((OB + 0), .box (fl (dT cU8) x11)), (15, .tup [])]) (ks := [(OB + 0), 15]) rfl (dg0 rfl) rfl rfl (fun S' hM hk hS hok => qL hM hk (σ := [0]) (fr := []) rfl rfl rfl (hok _ rfl rfl) rfl rfl rfl (zBd _ _ _ _ w0 _ h12) (zD _) rfl (by simp [A.flatO, zP]) (by simp [A.flatO, zP]) (cons_eq (hS (OB + 0) rfl) (rfl)) (.cons (zEm rfl rfl) (.cons (.plain .r rfl) .nil)) rfl (.tup .nil)) rfl ?_
 obtain ⟨x13, h14, h⟩ := bind_some h
 have h14 : x11.length = x5.length := zAu h14
 refine zAd (by kernel_rfl) ?_
 refine zL ?_
 refine zAC zBM (by kernel_rfl) ?_
 refine d_s (.t (.view 0 0 5 1 x1)) rfl (dg0 rfl) rfl rfl rfl rfl ?_
 obtain ⟨x15, h16, h⟩ := bind_some h
 refine d_h0 [] (e := [(17, .t (.view 0 (0 + Int.toNat 12 * 1) 5 1 (Int.toNat 16 - Int.toNat 12)))]) (ks := [17]) rfl (dg0 rfl) rfl rfl (fun S' hM hok => zFB hM rfl rfl rfl rfl rfl rfl rfl (zBc h16) rfl rfl rfl (hok _ rfl rfl)) rfl ?_
 refine d_s (.ref 1 0) rfl (dg0 rfl) rfl rfl rfl rfl ?_
 refine d_s (.ref 1 2) rfl (dg0 rfl) rfl rfl rfl rfl ?_
 refine d_s (.i p0.Entry.Len) rfl (dg0 rfl) rfl rfl rfl rfl ?_
 obtain ⟨x17, h18, h⟩ := bind_some h
 refine d_hm [OB + 0] (e := [((OB + 0), .box (fl (dT cU8) x17)), (21, .tup [])]) (ks := [(OB + 0), 21]) rfl (dg0 rfl) rfl rfl (fun S' hM hk hS hok => qL hM hk (σ := [0]) (fr := []) rfl rfl rfl (hok _ rfl rfl) rfl rfl rfl (zBd _ _ _ _ w0 _ h18) (zD _) rfl (by simp [A.flatO, zP]) (by simp [A.flatO, zP]) (cons_eq (hS (OB + 0) rfl) (rfl)) (.cons (zEm rfl rfl) (.cons (.plain .r rfl) .nil)) rfl (.tup .nil)) rfl ?_
 obtain ⟨x19, h20, h⟩ := bind_some h
 have h20 : x17.length = x11.length := zAu h20
 refine zAd (by kernel_rfl) ?_
 refine zL ?_
 refine zAC zBM (by kernel_rfl) ?_
 refine d_s (.t (.view 0 0 5 1 x1)) rfl (dg0 rfl) rfl rfl rfl rfl ?_
 obtain ⟨x21, h22, h⟩ := bind_some h
 refine d_h0 [] (e := [(23, .t (.view 0 (0 + Int.toNat 16 * 1) 5 1 (Int.toNat 20 - Int.toNat 16)))]) (ks := [23]) rfl (dg0 rfl) rfl rfl (fun S' hM hok => zFB hM rfl rfl rfl rfl rfl rfl rfl (zBc h22) rfl rfl rfl (hok _ rfl rfl)) rfl ?_
 refine d_s (.ref 1 0) rfl (dg0 rfl) rfl rfl rfl rfl ?_
 refine d_s (.ref 1 3) rfl (dg0 rfl) rfl rfl rfl rfl ?_
 refine d_s (.i p0.Entry.First) rfl (dg0 rfl) rfl rfl rfl rfl ?_
 obtain ⟨x23, h24, h⟩ := bind_some h
 refine d_hm [OB + 0] (e := [((OB + 0), .box (fl (dT cU8) x23)), (27, .tup [])]) (ks := [(OB + 0), 27]) rfl (dg0 rfl) rfl rfl (fun S' hM hk hS hok => qL hM hk (σ := [0]) (fr := []) rfl rfl rfl (hok _ rfl rfl) rfl rfl rfl (zBd _ _ _ _ w0 _ h24) (zD _) rfl (by simp [A.flatO, zP]) (by simp [A.flatO, zP]) (cons_eq (hS (OB + 0) rfl) (rfl)) (.cons (zEm rfl rfl) (.cons (.plain .r rfl) .nil)) rfl (.tup .nil)) rfl ?_
 obtain ⟨x25, h26, h⟩ := bind_some h
 have h26 : x23.length = x17.length := zAu h26
 refine zAd (by kernel_rfl) ?_
 refine c_sr ?_
 refine o_m5 (.t (.view 0 0 5 1 x1)) (.ref 1 0) (.ref 1 0) (.s p0.Entry.Key) (.i (p0.Entry.Key.length : Int)) rfl ?_
 refine o_c (g0 rfl) rfl rfl rfl (congrArg (fun z => A.t (.d (.lit (.int .u8 z)))) (u8c _)) trivial ?_
 obtain ⟨x27, h28, h⟩ := bind_some h
 refine o_of (e := [(34, .ref (OB + 0) (0 + Int.toNat 20 * 1))]) (g0 rfl) (zIH mR rfl rfl rfl rfl rfl (idxV (by first | rfl | omega | (simp; done) | (dsimp only; omega) | (simp; omega)) h28) rfl rfl rfl) rfl ?_
 refine o_of (e := [((OB + 0), .box (fl (dT cU8) (x23.set (Int.toNat 20) (U8 (p0.Entry.Key.length : Int)))))]) (g0 rfl) (zKC mR rfl rfl rfl rfl rfl rfl rfl (fl_room h28 (fun _ => rfl)) (fl_put h28 (U8 (p0.Entry.Key.length : Int)) (fun _ => rfl) rfl)) rfl ?_
 refine zB (zL ?_)
 refine zAC zBM (by kernel_rfl) ?_
 refine d_s (.t (.view 0 0 5 1 x1)) rfl (dg0 rfl) rfl rfl rfl rfl ?_
 obtain ⟨x29, h30, h⟩ := bind_some h
 refine d_h0 [] (e := [(36, .t (.view 0 (0 + Int.toNat 21 * 1) 5 1 (Int.toNat (x1 : Int) - Int.toNat 21)))]) (ks := [36]) rfl (dg0 rfl) rfl rfl (fun S' hM hok => zFB hM rfl rfl rfl rfl rfl rfl rfl (zBc h30) rfl rfl rfl (hok _ rfl rfl)) rfl ?_
 refine d_s (.ref 1 0) rfl (dg0 rfl) rfl rfl rfl rfl ?_
 refine d_s (.ref 1 0) rfl (dg0 rfl) rfl rfl rfl rfl ?_
 refine d_s (.s p0.Entry.Key) rfl (dg0 rfl) rfl rfl rfl rfl ?_
 obtain ⟨x31, h32, h⟩ := bind_some h
 refine d_h0 [OB + 0] (e := [((OB + 0), .box (fl (dT cU8) x31)), (40, .i (p0.Entry.Key.length : Int))]) (ks := [(OB + 0), 40]) rfl (dg0 rfl) rfl rfl (fun S' hM hok => h_cpyS hM rfl rfl rfl rfl rfl rfl rfl h32 rfl rfl (hok _ rfl rfl)) rfl ?_
 obtain ⟨x33, h34, h⟩ := bind_some h
 have h34 : x31.length = (x23.set (Int.toNat 20) (U8 (p0.Entry.Key.length : Int))).length := zAu h34; simp only [List.length_set, List.length_replicate] at h34
 refine zAd (by kernel_rfl) ?_
 refine c_sr ?_
 refine o_m2 (.t (.view 0 0 5 1 x1)) (.t (.view 0 0 5 1 x1)) rfl ?_
 refine zB ?_
 refine zJs 2 0 rfl rfl (by first | (simp; done) | (rw [List.length_map]; omega)) (zCm _ _) (zEW (c := cU8) (fun _ => rfl) _) rfl ⟨.inr ⟨_, rfl, zD _⟩, by (repeat (first | exact ObP.nil | refine ObP.cons (.inl rfl) ?_ | refine ObP.cons (.inr (fun _ => rfl)) ?_ | refine ObP.cons (.inr (qW (zP _ _))) ?_ | refine ObP.cons (.inr (zAJ _ _)) ?_))⟩ rfl ?_
 refine zJ ?_
 obtain rfl := Option.some.inj h
 exact ⟨⟨_, rfl, .r⟩, trivial, rfl⟩
theorem zE5 (p0 : (List UInt8)) (w0 : Hp) (r : (zQ × Bool)) (h : zCR p0 = some r) : FCH Try.prog 125 [.t (.d (.seq 1 (qE p0)))] [] [] (hpA w0) (hpA w0) (.tup [.agg [.lit (.string ⟨⟨r.1.Entry.Key⟩⟩), .lit (.int .i64 r.1.Entry.Version), .lit (.int .i64 r.1.Entry.Len), .lit (.int .i64 r.1.Entry.First), .lit (.int .i64 r.1.next_)], .d (.lit (.bool r.2))]) := by
 refine qY (rs := [.cell 2 150, .tmp 3]) (n := 48) [] Try.func125 rfl rfl (Nat.le_of_ble_eq_true rfl) rfl (pins := []) rfl (L := [(HK, .hp (hpA w0)), (0, .y p0)]) rfl ?_
 refine c_sr ?_
 refine o_m2 (.box [.s [], .i 0, .i 0, .i 0, .i 0]) (.b false) rfl ?_
 refine zB (c_sr ?_)
 refine o_1 (.y p0) rfl ?_
 obtain ⟨x1, h2, h⟩ := bind_some h
 refine o_c (g0 rfl) rfl rfl rfl (cutEh (c := cU8) h2) (cutCh (c := cU8) h2) ?_
 obtain ⟨x3, h4, h⟩ := bind_some h
 refine o_ca (zC0 _ _ h4) (g0 rfl) rfl rfl rfl rfl rfl rfl rfl (.cons .r .nil) rfl rfl ?_
 refine o_m2 (.t (.agg [.s [], .i 0, .i 0, .i 0, .i x3])) (.box [.s [], .i 0, .i 0, .i 0, .i 0]) rfl ?_
 refine o_st (.box [.s [], .i 0, .i 0, .i 0, .i x3]) (g0 rfl) rfl rfl rfl ?_
 refine zB (zL ?_)
 refine zAC zBM (by kernel_rfl) ?_
 refine d_s (.y p0) rfl (dg0 rfl) rfl rfl rfl rfl ?_
 obtain ⟨x5, h6, h⟩ := bind_some h
 refine d_c rfl (dg0 rfl) rfl rfl rfl rfl (cutE (c := cU8) h6) (cutC (c := cU8) h6) ?_
 obtain ⟨x7, h8, h⟩ := bind_some h
 refine d_ca (zC0 _ _ h8) rfl (dg0 rfl) rfl rfl rfl rfl rfl rfl rfl rfl (.cons .r .nil) rfl rfl ?_
 refine d_s (.y p0) rfl (dg0 rfl) rfl rfl rfl rfl ?_
 obtain ⟨x9, h10, h⟩ := bind_some h
 refine d_c rfl (dg0 rfl) rfl rfl rfl rfl (cutE (c := cU8) h10) (cutC (c := cU8) h10) ?_
 obtain ⟨x11, h12, h⟩ := bind_some h
 refine d_ca (zC0 _ _ h12) rfl (dg0 rfl) rfl rfl rfl rfl rfl rfl rfl rfl (.cons .r .nil) rfl rfl ?_
 refine d_s (.y p0) rfl (dg0 rfl) rfl rfl rfl rfl ?_
 obtain ⟨x13, h14, h⟩ := bind_some h
 refine d_c rfl (dg0 rfl) rfl rfl rfl rfl (cutE (c := cU8) h14) (cutC (c := cU8) h14) ?_
 obtain ⟨x15, h16, h⟩ := bind_some h
 refine d_ca (zC0 _ _ h16) rfl (dg0 rfl) rfl rfl rfl rfl rfl rfl rfl rfl (.cons .r .nil) rfl rfl ?_
 refine d_s (.ref 4 0) rfl (dg0 rfl) rfl rfl rfl rfl ?_
 refine d_s (.ref 4 1) rfl (dg0 rfl) rfl rfl rfl rfl ?_
 refine d_st (.box [.s [], .i x7, .i 0, .i 0, .i x3]) rfl (dg0 rfl) rfl rfl rfl rfl ?_
 refine d_s (.ref 4 0) rfl (dg0 rfl) rfl rfl rfl rfl ?_
 refine d_s (.ref 4 2) rfl (dg0 rfl) rfl rfl rfl rfl ?_
 refine d_st (.box [.s [], .i x7, .i x11, .i 0, .i x3]) rfl (dg0 rfl) rfl rfl rfl rfl ?_
 refine d_s (.ref 4 0) rfl (dg0 rfl) rfl rfl rfl rfl ?_
 refine d_s (.ref 4 3) rfl (dg0 rfl) rfl rfl rfl rfl ?_
 refine d_st (.box [.s [], .i x7, .i x11, .i x15, .i x3]) rfl (dg0 rfl) rfl rfl rfl rfl ?_
 refine zAd (by kernel_rfl) ?_
 refine zEZ (fun (y17 : (List UInt8)) => [(0, .y p0), (2, .box [.s [], .i 0, .i 0, .i 0, .i 0]), (4, .box [.s y17, .i x7, .i x11, .i x15, .i x3]), (HK, .hp (hpA w0))]) (fun (y17 : (List UInt8)) => zBw x7 x11 x15 x3 p0 y17 = some r) ?_ ?_
 ·
  refine c_sr ?_
  refine o_1 (.y p0) rfl ?_
  obtain ⟨x25, h26, h⟩ := bind_some h
  refine o_c (g0 rfl) rfl rfl rfl (idxE h26) (idxC h26) ?_
  refine o_1 (.t (.d (.lit (.int .u8 (x25.toNat : Int))))) rfl ?_
  refine o_c (g0 rfl) rfl rfl rfl (congrArg (fun z => A.i z) (i64_u8 _)) trivial ?_
  refine o_1 (.i (x25.toNat : Int)) rfl ?_
  refine zB (c_sr ?_)
  refine o_m2 (.i (x25.toNat : Int)) (.b (decide ((x25.toNat : Int) ≤ 40))) rfl ?_
  refine zB ?_
  rcases zF h with ⟨h27, h⟩ | ⟨h27, h⟩
  ·
   refine c_t h27 rfl ?_
   refine zS ?_
   refine o_m3 (.y p0) (.i (x25.toNat : Int)) (.i (wi (21 + (x25.toNat : Int)))) rfl ?_
   obtain ⟨x28, h29, h⟩ := bind_some h
   refine o_c (g0 rfl) rfl rfl rfl (cutE (c := cU8) h29) (cutC (c := cU8) h29) ?_
   refine o_c (g0 rfl) rfl rfl rfl (strE _) (isB_bytes _) ?_
   refine o_m2 (.ref 4 0) (.ref 4 0) rfl ?_
   refine o_st (.box [.s x28, .i x7, .i x11, .i x15, .i x3]) (g0 rfl) rfl rfl rfl ?_
   refine zB ?_
   exact ⟨x28, [], h, rfl, ⟨.inr ⟨_, rfl, zD _⟩, by (repeat (first | exact ObP.nil | refine ObP.cons (.inl rfl) ?_ | refine ObP.cons (.inr (fun _ => rfl)) ?_ | refine ObP.cons (.inr (qW (zP _ _))) ?_ | refine ObP.cons (.inr (zAJ _ _)) ?_))⟩, ⟨.r, .r, .r, .r, trivial⟩, rfl⟩
  refine c_f h27 rfl ?_
  refine zK ?_
  exact ⟨[], [], h, rfl, ⟨.inr ⟨_, rfl, zD _⟩, by (repeat (first | exact ObP.nil | refine ObP.cons (.inl rfl) ?_ | refine ObP.cons (.inr (fun _ => rfl)) ?_ | refine ObP.cons (.inr (qW (zP _ _))) ?_ | refine ObP.cons (.inr (zAJ _ _)) ?_))⟩, ⟨.r, .r, .r, .r, trivial⟩, rfl⟩
 rintro y17 h
 refine zL ?_
 refine zAC zBM (by kernel_rfl) ?_
 refine d_s (.t (.agg [.s y17, .i x7, .i x11, .i x15, .i x3])) rfl (dg0 rfl) rfl rfl rfl rfl ?_
 refine d_s (.ref 4 0) rfl (dg0 rfl) rfl rfl rfl rfl ?_
 refine d_s (.t (.agg [.s y17, .i x7, .i x11, .i x15])) rfl (dg0 rfl) rfl rfl rfl rfl ?_
 obtain ⟨x18, h19, h⟩ := bind_some h
 refine d_ca (zEb _ _ h19) rfl (dg0 rfl) rfl rfl rfl rfl rfl rfl rfl rfl (.cons .r .nil) rfl rfl ?_
 refine d_s (.b x18) rfl (dg0 rfl) rfl rfl rfl rfl ?_
 rcases zF h with ⟨h20, h⟩ | ⟨h20, h⟩
 ·
  refine d_s (.t (.agg [.s y17, .i x7, .i x11, .i x15, .i x3])) rfl (dgy rfl rfl rfl rfl h20) rfl rfl rfl rfl ?_
  obtain ⟨x21, h22, h⟩ := bind_some h
  refine d_h (e := [(44, .y x21)]) (ks := [44]) rfl (dgy rfl rfl rfl rfl h20) rfl rfl (fun S' hM hk hok => qL hM hk (σ := []) (fr := []) rfl rfl rfl (hok _ rfl rfl) rfl rfl rfl (zCB _ w0 _ h22) (zD _) rfl rfl rfl rfl (.cons (.plain .r rfl) .nil) rfl (.t (.flat rfl))) rfl ?_
  refine d_s (.y p0) rfl (dgy rfl rfl rfl rfl h20) rfl rfl rfl rfl ?_
  obtain ⟨x23, h24, h⟩ := bind_some h
  refine d_ca (zDB _ _ _ h24) rfl (dgy rfl rfl rfl rfl h20) rfl rfl rfl rfl rfl rfl rfl rfl (.cons .r (.cons .r .nil)) rfl rfl ?_
  refine d_pk (.b x23) (b := true) h20 rfl (dg0 rfl) rfl rfl rfl rfl rfl rfl ?_
  refine d_st (.box [.s y17, .i x7, .i x11, .i x15, .i x3]) rfl (dg0 rfl) rfl rfl rfl rfl ?_
  refine d_s (.b x23) rfl (dg0 rfl) rfl rfl rfl rfl ?_
  refine zAd (by kernel_rfl) ?_
  refine zJ ?_
  obtain rfl := Option.some.inj h
  exact ⟨⟨_, rfl, (.tup (.cons .r (.cons .r .nil)))⟩, trivial, rfl⟩
 refine qO rfl rfl rfl rfl rfl h20 rfl rfl rfl ?_
 refine qO rfl rfl rfl rfl rfl h20 rfl rfl rfl ?_
 refine qO rfl rfl rfl rfl rfl h20 rfl rfl rfl ?_
 refine qO rfl rfl rfl rfl rfl h20 rfl rfl rfl ?_
 refine d_pk (.b false) (b := false) h20 rfl (dg0 rfl) rfl rfl rfl rfl rfl rfl ?_
 refine d_st (.box [.s y17, .i x7, .i x11, .i x15, .i x3]) rfl (dg0 rfl) rfl rfl rfl rfl ?_
 refine d_s (.b false) rfl (dg0 rfl) rfl rfl rfl rfl ?_
 refine zAd (by kernel_rfl) ?_
 refine zJ ?_
 obtain rfl := Option.some.inj h
 exact ⟨⟨_, rfl, (.tup (.cons .r (.cons .r .nil)))⟩, trivial, rfl⟩
theorem zE4 (p0 : (Option Nat)) (p1 : Int) (F2 : Nat) (C2 : List (List D)) (p2 : (Int → zQ → Option Bool)) (hp2 : ∀ (a0 : Int) (a1 : zQ) r, p2 a0 a1 = some r → FC Try.prog F2 ([.t (.d (.lit (.int .i64 a0))), .t (.agg [.lit (.string ⟨⟨a1.Entry.Key⟩⟩), .lit (.int .i64 a1.Entry.Version), .lit (.int .i64 a1.Entry.Len), .lit (.int .i64 a1.Entry.First), .lit (.int .i64 a1.next_)])] ++ C2.map A.imm) [] (.t (.d (.lit (.bool r))))) (hf2 : ∃ fn, Try.prog.funcs[F2]? = some fn ∧ fn.body.isNone = false ∧ (fn.name == "runtime.NumGoroutine") = false) (w0 : Hp) (r : (zW × Int × zQ × Int)) (h : zBo p0 p1 p2 w0 = some r) : FCH Try.prog 101 [.t ((ptT 7 p0)), .t (.d (.lit (.int .i64 p1))), .t (.d (.clo F2 C2))] [] [] (hpA w0) (hpA w0) (.tup [.agg [.lit (.int .i64 r.1.home_), .lit (.int .i64 r.1.off_)], .d (.lit (.int .i64 r.2.1)), .agg [.lit (.string ⟨⟨r.2.2.1.Entry.Key⟩⟩), .lit (.int .i64 r.2.2.1.Entry.Version), .lit (.int .i64 r.2.2.1.Entry.Len), .lit (.int .i64 r.2.2.1.Entry.First), .lit (.int .i64 r.2.2.1.next_)], .d (.lit (.int .i64 r.2.2.2))]) := by
 refine qY (rs := [.cell 6 148, .tmp 7, .cell 8 150, .tmp 9]) (n := 86) [] Try.func101 rfl rfl (Nat.le_of_ble_eq_true rfl) rfl (pins := []) rfl (L := [(HK, .hp (hpA w0)), (0, .t ((ptT 7 p0))), (1, .i p1), (2, .t (.d (.clo F2 C2)))]) rfl ?_
 refine c_sr ?_
 refine o_m4 (.box [.i 0, .i 0]) (.i 0) (.box [.s [], .i 0, .i 0, .i 0, .i 0]) (.i 0) rfl ?_
 refine zB ?_
 refine zIt 0 _ rfl ?_
 refine c_sr ?_
 refine o_of (e := [(19, .t ((ptT 7 p0)))]) (g0 rfl) (h_mv mR (.inl rfl) (zM rfl) rfl rfl) rfl ?_
 refine o_1 (.i p1) rfl ?_
 obtain ⟨x1, h2, h⟩ := bind_some h
 refine o_of (e := [(21, .t (.agg [.i x1.home_, .i x1.off_]))]) (g0 rfl) (qL mR rfl (σ := []) (fr := []) rfl rfl rfl rfl rfl rfl rfl (zBD _ _ w0 _ h2) (zD _) rfl rfl rfl rfl (.cons (yJ rfl) (.cons (.plain .r rfl) .nil)) rfl (.t (.flat rfl))) rfl ?_
 refine o_1 (.box [.i 0, .i 0]) rfl ?_
 refine o_st (.box [.i x1.home_, .i x1.off_]) (g0 rfl) rfl rfl rfl ?_
 refine zB (c_sr ?_)
 refine o_of (e := [(23, .t ((ptT 7 p0)))]) (g0 rfl) (h_mv mR (.inl rfl) (zM rfl) rfl rfl) rfl ?_
 refine o_1 (.t (.agg [.i x1.home_, .i x1.off_])) rfl ?_
 obtain ⟨x3, h4, h⟩ := bind_some h
 refine o_of (e := [(25, .tup [.i x3.1, .i x3.2])]) (g0 rfl) (qL mR rfl (σ := []) (fr := []) rfl rfl rfl rfl rfl rfl rfl (zBs _ _ w0 _ h4) (zD _) rfl rfl rfl rfl (.cons (yJ rfl) (.cons (.plain .r rfl) .nil)) rfl (.tup (.cons (.flat rfl) (.cons (.flat rfl) .nil)))) rfl ?_
 refine o_m5 (.tup [.i x3.1, .i x3.2]) (.i x3.1) (.i x3.2) (.i x3.1) (.i x3.2) rfl ?_
 refine zB (zL (c_sr ?_))
 refine o_m2 (.i x3.2) (.b (x3.2 != 0)) rfl ?_
 refine zB ?_
 rcases zF h with ⟨h5, h⟩ | ⟨h5, h⟩
 ·
  refine c_t h5 rfl ?_
  refine c_sr ?_
  refine o_m3 (.t (.agg [.i 0, .i 0])) (.t (.agg [.s [], .i 0, .i 0, .i 0, .i 0])) (.i x3.2) rfl ?_
  refine o_st (.box [.i 0, .i 0]) (g0 rfl) rfl rfl rfl ?_
  refine o_1 (.i 0) rfl ?_
  refine o_st (.box [.s [], .i 0, .i 0, .i 0, .i 0]) (g0 rfl) rfl rfl rfl ?_
  refine o_1 (.i x3.2) rfl ?_
  refine zB (zJ ?_)
  obtain rfl := Option.some.inj h
  exact ⟨⟨_, rfl, (.tup (.cons .r (.cons .r (.cons .r (.cons .r .nil)))))⟩, trivial, rfl⟩
 refine c_f h5 rfl ?_
 refine zK (c_sr ?_)
 refine o_1 (.i 0) rfl ?_
 refine zB ?_
 refine c_lab (fun (q : Int × Int × Int × Int) => [(0, .t ((ptT 7 p0))), (1, .i p1), (2, .t (.d (.clo F2 C2))), (6, .box [.i 0, .i 0]), (8, .box [.s [], .i 0, .i 0, .i 0, .i 0]), (10, .box [.i q.1, .i q.2.1]), (11, .i q.2.2.1), (13, .i q.2.2.2), (HK, .hp (hpA w0))]) (fun nl1 => (fun (q : Int × Int × Int × Int) => yT p0 w0 p1 p2 nl1 q.1 q.2.1 q.2.2.1 q.2.2.2 = some r)) (16400) (x1.home_, x1.off_, x3.1, 0) [] rfl h rfl ⟨.inr ⟨_, rfl, zD _⟩, by (repeat (first | exact ObP.nil | refine ObP.cons (.inl rfl) ?_ | refine ObP.cons (.inr (fun _ => rfl)) ?_ | refine ObP.cons (.inr (qW (zP _ _))) ?_ | refine ObP.cons (.inr (zAJ _ _)) ?_))⟩ ⟨.r, .r, .r, .r, .r, .r, .r, .r, .r, trivial⟩ rfl ?_
 rintro nl1 ⟨z6, z7, z8, z9⟩ h
 cases nl1 with
 | zero => exact qV h
 | succ nl1 =>
  refine zL (c_sr ?_)
  refine o_m2 (.i z8) (.b (z8 == 0)) rfl ?_
  refine zB ?_
  rcases zF h with ⟨h10, h⟩ | ⟨h10, h⟩
  ·
   refine c_t h10 rfl ?_
   refine c_sr ?_
   refine o_m2 (.t (.agg [.i 0, .i 0])) (.t (.agg [.s [], .i 0, .i 0, .i 0, .i 0])) rfl ?_
   refine o_st (.box [.i 0, .i 0]) (g0 rfl) rfl rfl rfl ?_
   refine o_1 (.i 0) rfl ?_
   refine o_st (.box [.s [], .i 0, .i 0, .i 0, .i 0]) (g0 rfl) rfl rfl rfl ?_
   refine o_1 (.i 35) rfl ?_
   refine zB (zJ ?_)
   obtain rfl := Option.some.inj h
   exact ⟨⟨_, rfl, (.tup (.cons .r (.cons .r (.cons .r (.cons .r .nil)))))⟩, trivial, rfl⟩
  refine c_f h10 rfl ?_
  refine zK (c_sr ?_)
  refine o_of (e := [(38, .t ((ptT 7 p0)))]) (g0 rfl) (h_mv mR (.inl rfl) (zM rfl) rfl rfl) rfl ?_
  refine o_1 (.i z8) rfl ?_
  obtain ⟨x11, h12, h⟩ := bind_some h
  refine o_of (e := [(40, .tup [.y x11.1, .i x11.2])]) (g0 rfl) (qL mR rfl (σ := []) (fr := []) rfl rfl rfl rfl rfl rfl rfl (zBl _ _ w0 _ h12) (zD _) rfl rfl rfl rfl (.cons (yJ rfl) (.cons (.plain .r rfl) .nil)) rfl (.tup (.cons (.flat rfl) (.cons (.flat rfl) .nil)))) rfl ?_
  refine o_m5 (.tup [.y x11.1, .i x11.2]) (.y x11.1) (.i x11.2) (.y x11.1) (.i x11.2) rfl ?_
  refine zB (zL (c_sr ?_))
  refine o_m2 (.i x11.2) (.b (x11.2 != 0)) rfl ?_
  refine zB ?_
  rcases zF h with ⟨h13, h⟩ | ⟨h13, h⟩
  ·
   refine c_t h13 rfl ?_
   refine c_sr ?_
   refine o_m3 (.t (.agg [.i 0, .i 0])) (.t (.agg [.s [], .i 0, .i 0, .i 0, .i 0])) (.i x11.2) rfl ?_
   refine o_st (.box [.i 0, .i 0]) (g0 rfl) rfl rfl rfl ?_
   refine o_1 (.i 0) rfl ?_
   refine o_st (.box [.s [], .i 0, .i 0, .i 0, .i 0]) (g0 rfl) rfl rfl rfl ?_
   refine o_1 (.i x11.2) rfl ?_
   refine zB (zJ ?_)
   obtain rfl := Option.some.inj h
   exact ⟨⟨_, rfl, (.tup (.cons .r (.cons .r (.cons .r (.cons .r .nil)))))⟩, trivial, rfl⟩
  refine c_f h13 rfl ?_
  refine zK (c_sr ?_)
  refine o_1 (.y x11.1) rfl ?_
  obtain ⟨x14, h15, h⟩ := bind_some h
  refine o_of (e := [(50, .tup [.agg [.s x14.1.Entry.Key, .i x14.1.Entry.Version, .i x14.1.Entry.Len, .i x14.1.Entry.First, .i x14.1.next_], .b x14.2])]) (g0 rfl) (qL mR rfl (σ := []) (fr := []) rfl rfl rfl rfl rfl rfl rfl (zE5 _ w0 _ h15) (zD _) rfl rfl rfl rfl (.cons (.plain .r rfl) .nil) rfl (.tup (.cons (.flat rfl) (.cons (.flat rfl) .nil)))) rfl ?_
  refine o_m4 (.tup [.agg [.s x14.1.Entry.Key, .i x14.1.Entry.Version, .i x14.1.Entry.Len, .i x14.1.Entry.First, .i x14.1.next_], .b x14.2]) (.t (.agg [.s x14.1.Entry.Key, .i x14.1.Entry.Version, .i x14.1.Entry.Len, .i x14.1.Entry.First, .i x14.1.next_])) (.b x14.2) (.box [.s [], .i 0, .i 0, .i 0, .i 0]) rfl ?_
  refine o_st (.box [.s x14.1.Entry.Key, .i x14.1.Entry.Version, .i x14.1.Entry.Len, .i x14.1.Entry.First, .i x14.1.next_]) (g0 rfl) rfl rfl rfl ?_
  refine o_1 (.b x14.2) rfl ?_
  refine zB (c_sr ?_)
  refine o_m3 (.ref 15 0) (.ref 15 0) (.s x14.1.Entry.Key) rfl ?_
  obtain ⟨x16, h17, h⟩ := bind_some h
  refine o_ca (zBJ _ _ h17) (g0 rfl) rfl rfl rfl rfl rfl rfl rfl (.cons .r .nil) rfl rfl ?_
  refine o_m5 (.tup [.i x16.1, .b x16.2]) (.i x16.1) (.b x16.2) (.i x16.1) (.b x16.2) rfl ?_
  refine zB (zL (c_sr ?_))
  refine o_m3 (.i z9) (.i (wi (z9 + 1))) (.i (wi (z9 + 1))) rfl ?_
  refine zB (c_sr ?_)
  refine o_m3 (.b x14.2) (.b (!x14.2)) (.b (!x14.2)) rfl ?_
  rcases zF h with ⟨h18, h⟩ | ⟨h18, h⟩
  ·
   refine zC rfl rfl rfl h18 rfl rfl ?_
   refine zC rfl rfl rfl h18 rfl rfl ?_
   refine zC rfl rfl rfl h18 rfl rfl ?_
   refine o_pk (.b true) (b := true) h18 (g0 rfl) rfl rfl rfl rfl rfl ?_
   refine o_1 (.b true) rfl ?_
   refine zC rfl rfl rfl rfl rfl rfl ?_
   refine zC rfl rfl rfl rfl rfl rfl ?_
   refine o_pk (.b true) (b := true) rfl (g0 rfl) rfl rfl rfl rfl rfl ?_
   refine zB ?_
   refine c_t rfl rfl ?_
   refine c_sr ?_
   refine o_m2 (.t (.agg [.i 0, .i 0])) (.t (.agg [.s [], .i 0, .i 0, .i 0, .i 0])) rfl ?_
   refine o_st (.box [.i 0, .i 0]) (g0 rfl) rfl rfl rfl ?_
   refine o_1 (.i 0) rfl ?_
   refine o_st (.box [.s [], .i 0, .i 0, .i 0, .i 0]) (g0 rfl) rfl rfl rfl ?_
   refine o_1 (.i 11) rfl ?_
   refine zB (zJ ?_)
   obtain rfl := Option.some.inj h
   exact ⟨⟨_, rfl, (.tup (.cons .r (.cons .r (.cons .r (.cons .r .nil)))))⟩, trivial, rfl⟩
  refine o_s (.i x16.1) (gy rfl rfl rfl h18) rfl rfl rfl ?_
  refine o_s (.i p1) (gy rfl rfl rfl h18) rfl rfl rfl ?_
  refine o_s (.b (x16.1 != p1)) (gy rfl rfl rfl h18) rfl rfl rfl ?_
  refine o_pk (.b (x16.1 != p1)) (b := false) h18 (g0 rfl) rfl rfl rfl rfl rfl ?_
  refine o_1 (.b (x16.1 != p1)) rfl ?_
  rcases zF h with ⟨h19, h⟩ | ⟨h19, h⟩
  ·
   refine zC rfl rfl rfl h19 rfl rfl ?_
   refine zC rfl rfl rfl h19 rfl rfl ?_
   refine o_pk (.b true) (b := true) h19 (g0 rfl) rfl rfl rfl rfl rfl ?_
   refine zB ?_
   refine c_t rfl rfl ?_
   refine c_sr ?_
   refine o_m2 (.t (.agg [.i 0, .i 0])) (.t (.agg [.s [], .i 0, .i 0, .i 0, .i 0])) rfl ?_
   refine o_st (.box [.i 0, .i 0]) (g0 rfl) rfl rfl rfl ?_
   refine o_1 (.i 0) rfl ?_
   refine o_st (.box [.s [], .i 0, .i 0, .i 0, .i 0]) (g0 rfl) rfl rfl rfl ?_
   refine o_1 (.i 11) rfl ?_
   refine zB (zJ ?_)
   obtain rfl := Option.some.inj h
   exact ⟨⟨_, rfl, (.tup (.cons .r (.cons .r (.cons .r (.cons .r .nil)))))⟩, trivial, rfl⟩
  refine o_s (.i (wi (z9 + 1))) (gy rfl rfl rfl h19) rfl rfl rfl ?_
  refine o_s (.b (decide ((wi (z9 + 1)) > 16384))) (gy rfl rfl rfl h19) rfl rfl rfl ?_
  refine o_pk (.b (decide ((wi (z9 + 1)) > 16384))) (b := false) h19 (g0 rfl) rfl rfl rfl rfl rfl ?_
  refine zB ?_
  rcases zF h with ⟨h20, h⟩ | ⟨h20, h⟩
  ·
   refine c_t h20 rfl ?_
   refine c_sr ?_
   refine o_m2 (.t (.agg [.i 0, .i 0])) (.t (.agg [.s [], .i 0, .i 0, .i 0, .i 0])) rfl ?_
   refine o_st (.box [.i 0, .i 0]) (g0 rfl) rfl rfl rfl ?_
   refine o_1 (.i 0) rfl ?_
   refine o_st (.box [.s [], .i 0, .i 0, .i 0, .i 0]) (g0 rfl) rfl rfl rfl ?_
   refine o_1 (.i 11) rfl ?_
   refine zB (zJ ?_)
   obtain rfl := Option.some.inj h
   exact ⟨⟨_, rfl, (.tup (.cons .r (.cons .r (.cons .r (.cons .r .nil)))))⟩, trivial, rfl⟩
  refine c_f h20 rfl ?_
  refine zK (zL (c_sr ?_))
  refine o_m3 (.t (.d (.clo F2 C2))) (.i z8) (.t (.agg [.s x14.1.Entry.Key, .i x14.1.Entry.Version, .i x14.1.Entry.Len, .i x14.1.Entry.First, .i x14.1.next_])) rfl ?_
  obtain ⟨x21, h22, h⟩ := bind_some h
  refine o_cc (hp2 _ _ _ h22) (g0 rfl) rfl rfl rfl rfl hf2.choose_spec.1 hf2.choose_spec.2.1 hf2.choose_spec.2.2 (.cons .r (.cons .r .nil)) rfl rfl ?_
  refine zB ?_
  rcases zF h with ⟨h23, h⟩ | ⟨h23, h⟩
  ·
   refine c_t h23 rfl ?_
   refine zL ?_
   refine zAC zBM (by kernel_rfl) ?_
   refine d_s (.t (.agg [.i z6, .i z7])) rfl (dg0 rfl) rfl rfl rfl rfl ?_
   refine d_s (.i z8) rfl (dg0 rfl) rfl rfl rfl rfl ?_
   refine d_s (.t (.agg [.s x14.1.Entry.Key, .i x14.1.Entry.Version, .i x14.1.Entry.Len, .i x14.1.Entry.First, .i x14.1.next_])) rfl (dg0 rfl) rfl rfl rfl rfl ?_
   refine d_st (.box [.i z6, .i z7]) rfl (dg0 rfl) rfl rfl rfl rfl ?_
   refine d_s (.i z8) rfl (dg0 rfl) rfl rfl rfl rfl ?_
   refine d_st (.box [.s x14.1.Entry.Key, .i x14.1.Entry.Version, .i x14.1.Entry.Len, .i x14.1.Entry.First, .i x14.1.next_]) rfl (dg0 rfl) rfl rfl rfl rfl ?_
   refine d_s (.i 0) rfl (dg0 rfl) rfl rfl rfl rfl ?_
   refine zAd (by kernel_rfl) ?_
   refine zJ ?_
   obtain rfl := Option.some.inj h
   exact ⟨⟨_, rfl, (.tup (.cons .r (.cons .r (.cons .r (.cons .r .nil)))))⟩, trivial, rfl⟩
  refine c_f h23 rfl ?_
  refine zK (zL ?_)
  refine zAC zBM (by kernel_rfl) ?_
  refine d_s (.i z8) rfl (dg0 rfl) rfl rfl rfl rfl ?_
  refine d_s (.t (.agg [.i z8, .i 0])) rfl (dg0 rfl) rfl rfl rfl rfl ?_
  refine d_s (.ref 15 4) rfl (dg0 rfl) rfl rfl rfl rfl ?_
  refine d_s (.i x14.1.next_) rfl (dg0 rfl) rfl rfl rfl rfl ?_
  refine d_st (.box [.i z8, .i 0]) rfl (dg0 rfl) rfl rfl rfl rfl ?_
  refine d_s (.i x14.1.next_) rfl (dg0 rfl) rfl rfl rfl rfl ?_
  refine zAd (by kernel_rfl) ?_
  refine c_goto (gq_goto ?_)
  exact ⟨nl1, (z8, 0, x14.1.next_, (wi (z9 + 1))), [], Nat.lt_succ_self nl1, h, rfl, ⟨.inr ⟨_, rfl, zD _⟩, by (repeat (first | exact ObP.nil | refine ObP.cons (.inl rfl) ?_ | refine ObP.cons (.inr (fun _ => rfl)) ?_ | refine ObP.cons (.inr (qW (zP _ _))) ?_ | refine ObP.cons (.inr (zAJ _ _)) ?_))⟩, ⟨.r, .r, .r, .r, .r, .r, .r, .r, .r, trivial⟩, rfl⟩
theorem zER (p0 : Int) (p1 : zQ) (c2 : (List UInt8)) (r : Bool) (h : zAY p0 p1 c2 = some r) : FC Try.prog 120 [.t (.d (.lit (.int .i64 p0))), .t (.agg [.lit (.string ⟨⟨p1.Entry.Key⟩⟩), .lit (.int .i64 p1.Entry.Version), .lit (.int .i64 p1.Entry.Len), .lit (.int .i64 p1.Entry.First), .lit (.int .i64 p1.next_)]), .imm [.lit (.string ⟨⟨c2⟩⟩)]] [] (.t (.d (.lit (.bool r)))) := by
 refine zDl (rs := [.tmp 5]) (n := 11) Try.func120 rfl rfl (Nat.le_of_ble_eq_true rfl) rfl (pins := []) rfl (L := [(0, .i p0), (1, .t (.agg [.s p1.Entry.Key, .i p1.Entry.Version, .i p1.Entry.Len, .i p1.Entry.First, .i p1.next_])), (2, .imm [.s c2])]) rfl ?_
 refine c_sr ?_
 refine o_m2 (.box [.s p1.Entry.Key, .i p1.Entry.Version, .i p1.Entry.Len, .i p1.Entry.First, .i p1.next_]) (.b false) rfl ?_
 refine zB (c_sr ?_)
 refine o_m4 (.ref 4 0) (.ref 4 0) (.s p1.Entry.Key) (.s c2) rfl ?_
 refine o_c (g0 rfl) rfl rfl rfl (congrArg (fun z => A.b z) (zFW _ _)) trivial ?_
 refine o_1 (.b (p1.Entry.Key == c2)) rfl ?_
 refine zB (zJ ?_)
 obtain rfl := Option.some.inj h
 exact end0 rfl .r
theorem zBE (p0 : (Option Nat)) (p1 : (List UInt8)) (w0 : Hp) (r : (zW × Int × zQ × Int)) (h : yS p0 p1 w0 = some r) : FCH Try.prog 90 [.t ((ptT 7 p0)), .t (.d (.lit (.string ⟨⟨p1⟩⟩)))] [] [] (hpA w0) (hpA w0) (.tup [.agg [.lit (.int .i64 r.1.home_), .lit (.int .i64 r.1.off_)], .d (.lit (.int .i64 r.2.1)), .agg [.lit (.string ⟨⟨r.2.2.1.Entry.Key⟩⟩), .lit (.int .i64 r.2.2.1.Entry.Version), .lit (.int .i64 r.2.2.1.Entry.Len), .lit (.int .i64 r.2.2.1.Entry.First), .lit (.int .i64 r.2.2.1.next_)], .d (.lit (.int .i64 r.2.2.2))]) := by
 refine qY (rs := [.cell 4 148, .tmp 5, .cell 6 150, .tmp 7]) (n := 27) [] Try.func90 rfl rfl (Nat.le_of_ble_eq_true rfl) rfl (pins := []) rfl (L := [(HK, .hp (hpA w0)), (0, .t ((ptT 7 p0))), (1, .s p1)]) rfl ?_
 refine c_sr ?_
 refine o_m5 (.box [.s p1]) (.box [.i 0, .i 0]) (.i 0) (.box [.s [], .i 0, .i 0, .i 0, .i 0]) (.i 0) rfl ?_
 refine zB (c_sr ?_)
 refine o_1 (.s p1) rfl ?_
 obtain ⟨x1, h2, h⟩ := bind_some h
 refine o_ca (zBJ _ _ h2) (g0 rfl) rfl rfl rfl rfl rfl rfl rfl (.cons .r .nil) rfl rfl ?_
 refine o_m5 (.tup [.i x1.1, .b x1.2]) (.i x1.1) (.b x1.2) (.i x1.1) (.b x1.2) rfl ?_
 refine zB (zL (c_sr ?_))
 refine o_m2 (.b x1.2) (.b (!x1.2)) rfl ?_
 refine zB ?_
 rcases zF h with ⟨h3, h⟩ | ⟨h3, h⟩
 ·
  refine c_t h3 rfl ?_
  refine c_sr ?_
  refine o_m2 (.t (.agg [.i 0, .i 0])) (.t (.agg [.s [], .i 0, .i 0, .i 0, .i 0])) rfl ?_
  refine o_st (.box [.i 0, .i 0]) (g0 rfl) rfl rfl rfl ?_
  refine o_1 (.i 0) rfl ?_
  refine o_st (.box [.s [], .i 0, .i 0, .i 0, .i 0]) (g0 rfl) rfl rfl rfl ?_
  refine o_1 (.i 2) rfl ?_
  refine zB (zJ ?_)
  obtain rfl := Option.some.inj h
  exact ⟨⟨_, rfl, (.tup (.cons .r (.cons .r (.cons .r (.cons .r .nil)))))⟩, trivial, rfl⟩
 refine c_f h3 rfl ?_
 refine zK (zL ?_)
 refine c_fz 3 (.imm [.s p1]) rfl rfl rfl rfl ?_
 refine zS ?_
 refine o_of (e := [(19, .t ((ptT 7 p0)))]) (g0 rfl) (h_mv mR (.inl rfl) (zM rfl) rfl rfl) rfl ?_
 refine o_1 (.i x1.1) rfl ?_
 refine o_mfc (.t (.d (.clo 120 [[.s p1]]))) (g0 rfl) rfl rfl rfl rfl rfl ?_
 obtain ⟨x4, h5, h⟩ := bind_some h
 refine o_of (e := [(22, .tup [.agg [.i x4.1.home_, .i x4.1.off_], .i x4.2.1, .agg [.s x4.2.2.1.Entry.Key, .i x4.2.2.1.Entry.Version, .i x4.2.2.1.Entry.Len, .i x4.2.2.1.Entry.First, .i x4.2.2.1.next_], .i x4.2.2.2])]) (g0 rfl) (qL mR rfl (σ := []) (fr := []) rfl rfl rfl rfl rfl rfl rfl (zE4 _ _ 120 [[.s p1]] _ (fun a0 a1 r h => zER a0 a1 p1 r h) ⟨_, Try.func120, rfl, rfl⟩ w0 _ h5) (zD _) rfl rfl rfl rfl (.cons (yJ rfl) (.cons (.plain .r rfl) (.cons (.plain .r rfl) .nil))) rfl (.tup (.cons (.flat rfl) (.cons (.flat rfl) (.cons (.flat rfl) (.cons (.flat rfl) .nil)))))) rfl ?_
 refine o_m4 (.t (.agg [.i x4.1.home_, .i x4.1.off_])) (.i x4.2.1) (.t (.agg [.s x4.2.2.1.Entry.Key, .i x4.2.2.1.Entry.Version, .i x4.2.2.1.Entry.Len, .i x4.2.2.1.Entry.First, .i x4.2.2.1.next_])) (.i x4.2.2.2) rfl ?_
 refine o_st (.box [.i x4.1.home_, .i x4.1.off_]) (g0 rfl) rfl rfl rfl ?_
 refine o_1 (.i x4.2.1) rfl ?_
 refine o_st (.box [.s x4.2.2.1.Entry.Key, .i x4.2.2.1.Entry.Version, .i x4.2.2.1.Entry.Len, .i x4.2.2.1.Entry.First, .i x4.2.2.1.next_]) (g0 rfl) rfl rfl rfl ?_
 refine o_1 (.i x4.2.2.2) rfl ?_
 refine zB (zJ ?_)
 obtain rfl := Option.some.inj h
 exact ⟨⟨_, rfl, (.tup (.cons .r (.cons .r (.cons .r (.cons .r .nil)))))⟩, trivial, rfl⟩
theorem zCA (p0 : (Option Nat)) (p1 : (List UInt8)) (w0 : Hp) (r : (zA × Int × Int)) (h : yK p0 p1 w0 = some r) : FCH Try.prog 51 [.t ((ptT 7 p0)), .t (.d (.lit (.string ⟨⟨p1⟩⟩)))] [] [] (hpA w0) (hpA w0) (.tup [.agg [.lit (.string ⟨⟨r.1.Key⟩⟩), .lit (.int .i64 r.1.Version), .lit (.int .i64 r.1.Len), .lit (.int .i64 r.1.First)], .d (.lit (.int .i64 r.2.1)), .d (.lit (.int .i64 r.2.2))]) := by
 refine qY (rs := [.cell 4 78, .tmp 5, .tmp 6]) (n := 23) [] Try.func51 rfl rfl (Nat.le_of_ble_eq_true rfl) rfl (pins := []) rfl (L := [(HK, .hp (hpA w0)), (0, .t ((ptT 7 p0))), (1, .s p1)]) rfl ?_
 refine c_sr ?_
 refine o_m3 (.box [.s [], .i 0, .i 0, .i 0]) (.i 0) (.i 0) rfl ?_
 refine zB (c_sr ?_)
 refine o_of (e := [(12, .t ((ptT 7 p0)))]) (g0 rfl) (h_mv mR (.inl rfl) (zM rfl) rfl rfl) rfl ?_
 refine o_1 (.s p1) rfl ?_
 obtain ⟨x1, h2, h⟩ := bind_some h
 refine o_of (e := [(14, .tup [.agg [.i x1.1.home_, .i x1.1.off_], .i x1.2.1, .agg [.s x1.2.2.1.Entry.Key, .i x1.2.2.1.Entry.Version, .i x1.2.2.1.Entry.Len, .i x1.2.2.1.Entry.First, .i x1.2.2.1.next_], .i x1.2.2.2])]) (g0 rfl) (qL mR rfl (σ := []) (fr := []) rfl rfl rfl rfl rfl rfl rfl (zBE _ _ w0 _ h2) (zD _) rfl rfl rfl rfl (.cons (yJ rfl) (.cons (.plain .r rfl) .nil)) rfl (.tup (.cons (.flat rfl) (.cons (.flat rfl) (.cons (.flat rfl) (.cons (.flat rfl) .nil)))))) rfl ?_
 refine o_m7 (.tup [.agg [.i x1.1.home_, .i x1.1.off_], .i x1.2.1, .agg [.s x1.2.2.1.Entry.Key, .i x1.2.2.1.Entry.Version, .i x1.2.2.1.Entry.Len, .i x1.2.2.1.Entry.First, .i x1.2.2.1.next_], .i x1.2.2.2]) (.t (.agg [.i x1.1.home_, .i x1.1.off_])) (.i x1.2.1) (.t (.agg [.s x1.2.2.1.Entry.Key, .i x1.2.2.1.Entry.Version, .i x1.2.2.1.Entry.Len, .i x1.2.2.1.Entry.First, .i x1.2.2.1.next_])) (.i x1.2.2.2) (.box [.i 0, .i 0]) (.box [.s [], .i 0, .i 0, .i 0, .i 0]) rfl ?_
 refine o_st (.box [.i x1.1.home_, .i x1.1.off_]) (g0 rfl) rfl rfl rfl ?_
 refine o_1 (.i x1.2.1) rfl ?_
 refine o_st (.box [.s x1.2.2.1.Entry.Key, .i x1.2.2.1.Entry.Version, .i x1.2.2.1.Entry.Len, .i x1.2.2.1.Entry.First, .i x1.2.2.1.next_]) (g0 rfl) rfl rfl rfl ?_
 refine o_1 (.i x1.2.2.2) rfl ?_
 refine zB (c_sr ?_)
 refine o_m4 (.ref 9 0) (.t (.agg [.s x1.2.2.1.Entry.Key, .i x1.2.2.1.Entry.Version, .i x1.2.2.1.Entry.Len, .i x1.2.2.1.Entry.First])) (.i x1.2.1) (.i x1.2.2.2) rfl ?_
 refine o_st (.box [.s x1.2.2.1.Entry.Key, .i x1.2.2.1.Entry.Version, .i x1.2.2.1.Entry.Len, .i x1.2.2.1.Entry.First]) (g0 rfl) rfl rfl rfl ?_
 refine o_m2 (.i x1.2.1) (.i x1.2.2.2) rfl ?_
 refine zB (zJ ?_)
 obtain rfl := Option.some.inj h
 exact ⟨⟨_, rfl, (.tup (.cons .r (.cons .r (.cons .r .nil))))⟩, trivial, rfl⟩
theorem zE3 (p0 : (Option Nat)) (p1 : Int) (w0 : Hp) (r : ((List UInt8) × Int)) (h : zDh p0 p1 w0 = some r) : FCH Try.prog 20 [.t ((ptT 1 p0)), .t (.d (.lit (.int .i64 p1)))] [] [gbA cU8 r.1] (hpA w0) (hpA w0) (.tup [.view 0 0 0 1 r.1.length, .d (.lit (.int .i64 r.2))]) := by
 refine qY (rs := [.tmp 4, .tmp 5]) (n := 22) [0] Try.func20 rfl rfl (Nat.le_of_ble_eq_true rfl) rfl (pins := []) rfl (L := [(HK, .hp (hpA w0)), (OB + 0, .free), (0, .t ((ptT 1 p0))), (1, .i p1)]) rfl ?_
 refine c_sr ?_
 refine o_m2 (.n) (.i 0) rfl ?_
 refine zB (zL (c_sr ?_))
 refine o_of (e := [(8, .t ((ptT 1 p0)))]) (g0 rfl) (h_mv mR (.inl rfl) (zM rfl) rfl rfl) rfl ?_
 refine o_1 (.i p1) rfl ?_
 obtain ⟨x1, h2, h⟩ := bind_some h
 refine o_of (e := [(10, .i x1)]) (g0 rfl) (qL mR rfl (σ := []) (fr := []) rfl rfl rfl rfl rfl rfl rfl (zBz _ _ w0 _ h2) (zD _) rfl rfl rfl rfl (.cons (yJ rfl) (.cons (.plain .r rfl) .nil)) rfl (.t (.flat rfl))) rfl ?_
 refine o_1 (.i x1) rfl ?_
 refine zB (c_sr ?_)
 refine o_m2 (.i x1) (.b (x1 != 0)) rfl ?_
 refine zB ?_
 rcases zF h with ⟨h3, h⟩ | ⟨h3, h⟩
 ·
  refine c_t h3 rfl ?_
  refine c_sr ?_
  refine o_m3 (.i x1) (.n) (.i x1) rfl ?_
  refine zB (zJ ?_)
  obtain rfl := Option.some.inj h
  exact ⟨⟨_, rfl, (.tup (.cons (.nilView _ _ _ _) (.cons .r .nil)))⟩, ⟨rfl, trivial⟩, rfl⟩
 refine c_f h3 rfl ?_
 refine zK (c_sr ?_)
 refine o_of (e := [(14, .t ((ptT 1 p0)))]) (g0 rfl) (h_mv mR (.inl rfl) (zM rfl) rfl rfl) rfl ?_
 rcases qQ h with ⟨h4, h⟩ | ⟨i5, h4, h⟩
 ·
  exact qV h
 refine o_of (e := [(15, .t (.hpt (cd 1 i5) 0))]) (g0 rfl) (h_nc mR rfl (zM rfl) (zFb h4) rfl rfl) rfl ?_
 refine o_of (e := [(16, .t (.hpt (cd 1 i5) 1))]) (g0 rfl) (h_fd mR rfl rfl rfl rfl rfl rfl) rfl ?_
 obtain ⟨x6, h7, h⟩ := bind_some h
 refine o_of (e := [(17, .t (.hvw (cd 2 x6.now_.1) 0 119 64 x6.now_.2))]) (g0 rfl) (h_ld mR rfl rfl rfl rfl (zEB h7) rfl rfl rfl rfl) rfl ?_
 refine o_1 (.i p1) rfl ?_
 obtain ⟨x8, h9, h⟩ := bind_some h
 obtain ⟨x10, h11, h⟩ := bind_some h
 obtain ⟨x12, h13, h⟩ := bind_some h
 refine o_of (e := [(19, .t (.hpt (cd 2 x6.now_.1) (0 + Int.toNat p1 * 64)))]) (g0 rfl) (h_ix mR rfl rfl rfl rfl (idxV (zAu h11) h13) rfl rfl rfl) rfl ?_
 refine o_of (e := [(20, .t (.agg (ar cU8 (0 : UInt8) x12 0 64)))]) (g0 rfl) (h_lr mR rfl rfl rfl rfl (zJf h9) (zHD (k := 64) h13 (fun _ => (by kernel_rfl))) (by kernel_rfl) (by kernel_rfl) (by kernel_rfl) rfl rfl) rfl ?_
 refine o_of (e := [((OB + 0), .box (fl (dT cU8) (padA (0 : UInt8) ([] : (List UInt8)) 0 64))), (7, .t (.ptr 0 0))]) (g0 rfl) (h_lnew mR rfl rfl rfl rfl (by kernel_rfl) rfl rfl rfl rfl) rfl ?_
 refine o_of (e := [((OB + 0), .box (fl (dT cU8) (padA (0 : UInt8) x12 0 64)))]) (g0 rfl) (zKC mR rfl rfl rfl rfl rfl rfl (by kernel_rfl) (Nat.le_of_ble_eq_true (by kernel_rfl)) (by kernel_rfl)) rfl ?_
 refine zB (c_sr ?_)
 refine o_of (e := [(21, .t (.view 0 0 0 1 64))]) (g0 rfl) (h_sla mR rfl rfl rfl rfl rfl rfl rfl (by kernel_rfl) rfl (by decide) rfl rfl rfl) rfl ?_
 refine o_m2 (.t (.view 0 0 0 1 64)) (.i 0) rfl ?_
 refine zB (zJ ?_)
 obtain rfl := Option.some.inj h
 exact ⟨⟨_, rfl, (.tup (.cons .r (.cons .r .nil)))⟩, ⟨rfl, trivial⟩, rfl⟩
theorem zFS (p0 : (Option Nat)) (p1 : Int) (w0 : Hp) (r : ((List UInt8) × Int)) (h : zEF p0 p1 w0 = some r) : FCH Try.prog 57 [.t ((ptT 3 p0)), .t (.d (.lit (.int .i64 p1)))] [] [gbA cU8 r.1] (hpA w0) (hpA w0) (.tup [.view 0 0 0 1 r.1.length, .d (.lit (.int .i64 r.2))]) := by
 refine qY (rs := [.tmp 4, .tmp 5]) (n := 30) [0] Try.func57 rfl rfl (Nat.le_of_ble_eq_true rfl) rfl (pins := []) rfl (L := [(HK, .hp (hpA w0)), (OB + 0, .free), (0, .t ((ptT 3 p0))), (1, .i p1)]) rfl ?_
 refine c_sr ?_
 refine o_m2 (.n) (.i 0) rfl ?_
 refine zB (zL (c_sr ?_))
 refine o_of (e := [(7, .t ((ptT 3 p0)))]) (g0 rfl) (h_mv mR (.inl rfl) (zM rfl) rfl rfl) rfl ?_
 obtain ⟨x1, h2, h⟩ := bind_some h
 refine o_of (e := [(8, .i x1)]) (g0 rfl) (qL mR rfl (σ := []) (fr := []) rfl rfl rfl rfl rfl rfl rfl (zBG _ w0 _ h2) (zD _) rfl rfl rfl rfl (.cons (yJ rfl) .nil) rfl (.t (.flat rfl))) rfl ?_
 refine o_1 (.i x1) rfl ?_
 refine zB (c_sr ?_)
 refine o_m2 (.i x1) (.b (x1 != 0)) rfl ?_
 refine zB ?_
 rcases zF h with ⟨h3, h⟩ | ⟨h3, h⟩
 ·
  refine c_t h3 rfl ?_
  refine c_sr ?_
  refine o_m3 (.i x1) (.n) (.i x1) rfl ?_
  refine zB (zJ ?_)
  obtain rfl := Option.some.inj h
  exact ⟨⟨_, rfl, (.tup (.cons (.nilView _ _ _ _) (.cons .r .nil)))⟩, ⟨rfl, trivial⟩, rfl⟩
 refine c_f h3 rfl ?_
 refine zK (zL (c_sr ?_))
 refine o_m3 (.i p1) (.b (decide (p1 < 0))) (.b (decide (p1 < 0))) rfl ?_
 rcases zF h with ⟨h4, h⟩ | ⟨h4, h⟩
 ·
  refine zC rfl rfl rfl h4 rfl rfl ?_
  refine zC rfl rfl rfl h4 rfl rfl ?_
  refine zC rfl rfl rfl h4 rfl rfl ?_
  refine zC rfl rfl rfl h4 rfl rfl ?_
  refine o_pk (.b true) (b := true) h4 (g0 rfl) rfl rfl rfl rfl rfl ?_
  refine zB ?_
  refine c_t rfl rfl ?_
  refine c_sr ?_
  refine o_m2 (.n) (.i 31) rfl ?_
  refine zB (zJ ?_)
  obtain rfl := Option.some.inj h
  exact ⟨⟨_, rfl, (.tup (.cons (.nilView _ _ _ _) (.cons .r .nil)))⟩, ⟨rfl, trivial⟩, rfl⟩
 refine o_s (.i p1) (gy rfl rfl rfl h4) rfl rfl rfl ?_
 refine o_of (e := [(16, .t ((ptT 3 p0)))]) (gy rfl rfl rfl h4) (h_mv mR (.inl rfl) (zM rfl) rfl rfl) rfl ?_
 obtain ⟨x5, h6, h⟩ := bind_some h
 refine o_of (e := [(17, .i x5)]) (gy rfl rfl rfl h4) (qL mR rfl (σ := []) (fr := []) rfl rfl rfl rfl rfl rfl rfl (zBL _ w0 _ h6) (zD _) rfl rfl rfl rfl (.cons (yJ rfl) .nil) rfl (.t (.flat rfl))) rfl ?_
 refine o_s (.b (decide (p1 ≥ x5))) (gy rfl rfl rfl h4) rfl rfl rfl ?_
 refine o_pk (.b (decide (p1 ≥ x5))) (b := false) h4 (g0 rfl) rfl rfl rfl rfl rfl ?_
 refine zB ?_
 rcases zF h with ⟨h7, h⟩ | ⟨h7, h⟩
 ·
  refine c_t h7 rfl ?_
  refine c_sr ?_
  refine o_m2 (.n) (.i 31) rfl ?_
  refine zB (zJ ?_)
  obtain rfl := Option.some.inj h
  exact ⟨⟨_, rfl, (.tup (.cons (.nilView _ _ _ _) (.cons .r .nil)))⟩, ⟨rfl, trivial⟩, rfl⟩
 refine c_f h7 rfl ?_
 refine zK (zL ?_)
 refine zAC zBM (by kernel_rfl) ?_
 rcases qQ h with ⟨h8, h⟩ | ⟨i9, h8, h⟩
 ·
  refine d_h0 [] (e := [(20, .t (.d (.lit (.pointer none))))]) (ks := [20]) rfl (dg0 rfl) rfl rfl (fun S' hM hok => h_mv hM (.inl rfl) ((zM rfl).trans (zAE h8)) rfl (hok _ rfl rfl)) rfl ?_
  exact qV h
 refine d_h0 [] (e := [(20, .t (.hpt (cd 3 i9) 0))]) (ks := [20]) rfl (dg0 rfl) rfl rfl (fun S' hM hok => h_mv hM (.inl rfl) ((zM rfl).trans (yA h8)) rfl (hok _ rfl rfl)) rfl ?_
 refine d_h0 [] (e := [(21, .t (.hpt (cd 3 i9) 0))]) (ks := [21]) rfl (dg0 rfl) rfl rfl (fun S' hM hok => h_nc hM rfl rfl rfl rfl (hok _ rfl rfl)) rfl ?_
 refine d_h0 [] (e := [(22, .t (.hpt (cd 3 i9) 0))]) (ks := [22]) rfl (dg0 rfl) rfl rfl (fun S' hM hok => h_fd hM rfl rfl rfl rfl rfl (hok _ rfl rfl)) rfl ?_
 obtain ⟨x10, h11, h⟩ := bind_some h
 refine d_h (e := [(23, .t ((ptT 1 x10.d_)))]) (ks := [23]) rfl (dg0 rfl) rfl rfl (fun S' hM hk hok => h_ld hM hk rfl rfl rfl (zA7 h11) rfl (zA0 _ _) rfl (hok _ rfl rfl)) rfl ?_
 refine d_h0 [] (e := [(24, .t (.hpt (cd 3 i9) 0))]) (ks := [24]) rfl (dg0 rfl) rfl rfl (fun S' hM hok => h_mv hM (.inl rfl) ((zM rfl).trans (yA h8)) rfl (hok _ rfl rfl)) rfl ?_
 refine d_s (.i p1) rfl (dg0 rfl) rfl rfl rfl rfl ?_
 obtain ⟨x12, h13, h⟩ := bind_some h
 refine d_h (e := [(26, .i x12)]) (ks := [26]) rfl (dg0 rfl) rfl rfl (fun S' hM hk hok => qL hM hk (σ := []) (fr := []) rfl rfl rfl (hok _ rfl rfl) rfl rfl rfl (zC6 _ _ w0 _ h13) (zD _) rfl rfl rfl rfl (.cons (.hpt _ _) (.cons (.plain .r rfl) .nil)) rfl (.t (.flat rfl))) rfl ?_
 obtain ⟨x14, h15, h⟩ := bind_some h
 refine d_hm [OB + 0] (e := [((OB + 0), gbA cU8 x14.1), (27, .tup [.view 0 0 0 1 x14.1.length, .i x14.2])]) (ks := [(OB + 0), 27]) rfl (dg0 rfl) rfl rfl (fun S' hM hk hS hok => qL hM hk (σ := []) (fr := [0]) rfl rfl rfl (hok _ rfl rfl) rfl rfl rfl (zE3 _ _ w0 _ h15) (zD _) rfl rfl (by simp [zGA]) rfl (.cons (yJ rfl) (.cons (.plain .r rfl) .nil)) rfl (.tup (.cons (.view rfl) (.cons (.flat rfl) .nil)))) rfl ?_
 refine d_s (.t (.view 0 0 0 1 x14.1.length)) rfl (dg0 rfl) rfl rfl rfl rfl ?_
 refine d_s (.i x14.2) rfl (dg0 rfl) rfl rfl rfl rfl ?_
 refine d_s (.t (.view 0 0 0 1 x14.1.length)) rfl (dg0 rfl) rfl rfl rfl rfl ?_
 refine d_s (.i x14.2) rfl (dg0 rfl) rfl rfl rfl rfl ?_
 refine zAd (by kernel_rfl) ?_
 refine zJ ?_
 obtain rfl := Option.some.inj h
 exact ⟨⟨_, rfl, (.tup (.cons .r (.cons .r .nil)))⟩, ⟨rfl, trivial⟩, rfl⟩
theorem zFG (p0 : (Option Nat)) (p1 : Int) (w0 : Hp) (r : ((List UInt8) × Int)) (h : zBh p0 p1 w0 = some r) : FCH Try.prog 31 [.t ((ptT 5 p0)), .t (.d (.lit (.int .i64 p1)))] [] [gbA cU8 r.1] (hpA w0) (hpA w0) (.tup [.view 0 0 0 1 r.1.length, .d (.lit (.int .i64 r.2))]) := by
 refine qY (rs := [.tmp 4, .tmp 5]) (n := 34) [0] Try.func31 rfl rfl (Nat.le_of_ble_eq_true rfl) rfl (pins := []) rfl (L := [(HK, .hp (hpA w0)), (OB + 0, .free), (0, .t ((ptT 5 p0))), (1, .i p1)]) rfl ?_
 refine c_sr ?_
 refine o_m2 (.n) (.i 0) rfl ?_
 refine zB (zL (c_sr ?_))
 refine o_of (e := [(9, .t ((ptT 5 p0)))]) (g0 rfl) (h_mv mR (.inl rfl) (zM rfl) rfl rfl) rfl ?_
 obtain ⟨x1, h2, h⟩ := bind_some h
 refine o_of (e := [(10, .i x1)]) (g0 rfl) (qL mR rfl (σ := []) (fr := []) rfl rfl rfl rfl rfl rfl rfl (zCk _ w0 _ h2) (zD _) rfl rfl rfl rfl (.cons (yJ rfl) .nil) rfl (.t (.flat rfl))) rfl ?_
 refine o_1 (.i x1) rfl ?_
 refine zB (c_sr ?_)
 refine o_m2 (.i x1) (.b (x1 != 0)) rfl ?_
 refine zB ?_
 rcases zF h with ⟨h3, h⟩ | ⟨h3, h⟩
 ·
  refine c_t h3 rfl ?_
  refine c_sr ?_
  refine o_m3 (.i x1) (.n) (.i x1) rfl ?_
  refine zB (zJ ?_)
  obtain rfl := Option.some.inj h
  exact ⟨⟨_, rfl, (.tup (.cons (.nilView _ _ _ _) (.cons .r .nil)))⟩, ⟨rfl, trivial⟩, rfl⟩
 refine c_f h3 rfl ?_
 refine zK (zL (c_sr ?_))
 refine o_of (e := [(15, .t ((ptT 5 p0)))]) (g0 rfl) (h_mv mR (.inl rfl) (zM rfl) rfl rfl) rfl ?_
 rcases qQ h with ⟨h4, h⟩ | ⟨i5, h4, h⟩
 ·
  exact qV h
 refine o_of (e := [(16, .t (.hpt (cd 5 i5) 0))]) (g0 rfl) (h_nc mR rfl (zM rfl) (zFb h4) rfl rfl) rfl ?_
 refine o_of (e := [(17, .t (.hpt (cd 5 i5) 3))]) (g0 rfl) (h_fd mR rfl rfl rfl rfl rfl rfl) rfl ?_
 obtain ⟨x6, h7, h⟩ := bind_some h
 refine o_of (e := [(18, .t (.mpt (OB + cd 6 x6.now_)))]) (g0 rfl) (h_ld mR rfl rfl rfl rfl (zGT h7) rfl rfl rfl rfl) rfl ?_
 refine o_1 (.i p1) rfl ?_
 obtain ⟨x8, h9, h⟩ := bind_some h
 refine o_of (e := [(20, .tup [.y ((zY x8 p1).getD ([] : (List UInt8))), .b ((zY x8 p1).isSome)])]) (g0 rfl) (h_mlk2H (kv := (fun z : Int => Value.int .i64 z)) (cv := (fun l : List UInt8 => D.y l)) mR rfl rfl rfl (gl_mp h9) rfl rfl (keyInt (by kernel_rfl)) rfl rfl (fun _ => RepD.nilSeq _ _) rfl rfl) rfl ?_
 refine o_m5 (.tup [.y ((zY x8 p1).getD ([] : (List UInt8))), .b ((zY x8 p1).isSome)]) (.y ((zY x8 p1).getD ([] : (List UInt8)))) (.b ((zY x8 p1).isSome)) (.y ((zY x8 p1).getD ([] : (List UInt8)))) (.b ((zY x8 p1).isSome)) rfl ?_
 refine zB (c_sr ?_)
 refine o_1 (.b ((zY x8 p1).isSome)) rfl ?_
 refine zB ?_
 rcases zF h with ⟨h10, h⟩ | ⟨h10, h⟩
 ·
  refine c_t h10 rfl ?_
  refine c_sr ?_
  refine o_1 (.y ((zY x8 p1).getD ([] : (List UInt8)))) rfl ?_
  obtain ⟨x11, h12, h⟩ := bind_some h
  rcases zF h with ⟨h13, h⟩ | ⟨h13, h⟩
  ·
   exact qV h
  refine o_of (e := [((OB + 0), gbA cU8 x11), (25, .t (.view 0 0 5 1 x11.length))]) (g0 rfl) (h_callobj (c := cU8) mR rfl rfl rfl rfl rfl rfl rfl (zEP _ _ h12) (.cons .r .nil) rfl rfl rfl (by rw [h13]; rfl) rfl (fun _ => rfl)) rfl ?_
  refine o_m2 (.t (.view 0 0 5 1 x11.length)) (.i 0) rfl ?_
  refine zB (zJ ?_)
  obtain rfl := Option.some.inj h
  exact ⟨⟨_, rfl, (.tup (.cons (.view0 _ _ _ _ _) (.cons .r .nil)))⟩, ⟨rfl, trivial⟩, rfl⟩
 refine c_f h10 rfl ?_
 refine zK (c_sr ?_)
 refine o_of (e := [(26, .t (.hpt (cd 5 i5) 0))]) (g0 rfl) (h_mv mR (.inl rfl) ((zM rfl).trans (yA h4)) rfl rfl) rfl ?_
 refine o_of (e := [(27, .t (.hpt (cd 5 i5) 0))]) (g0 rfl) (h_nc mR rfl rfl rfl rfl rfl) rfl ?_
 refine o_of (e := [(28, .t (.hpt (cd 5 i5) 0))]) (g0 rfl) (h_fd mR rfl rfl rfl rfl rfl rfl) rfl ?_
 refine o_of (e := [(29, .t ((ptT 3 x6.l_)))]) (g0 rfl) (h_ld mR rfl rfl rfl rfl (zGT h7) rfl (zA0 _ _) rfl rfl) rfl ?_
 refine o_1 (.i p1) rfl ?_
 obtain ⟨x14, h15, h⟩ := bind_some h
 refine o_of (e := [((OB + 0), gbA cU8 x14.1), (31, .tup [.view 0 0 0 1 x14.1.length, .i x14.2])]) (g0 rfl) (qL mR rfl (σ := []) (fr := [0]) rfl rfl rfl rfl rfl rfl rfl (zFS _ _ w0 _ h15) (zD _) rfl rfl (by simp [zGA]) rfl (.cons (yJ rfl) (.cons (.plain .r rfl) .nil)) rfl (.tup (.cons (.view rfl) (.cons (.flat rfl) .nil)))) rfl ?_
 refine o_m4 (.t (.view 0 0 0 1 x14.1.length)) (.i x14.2) (.t (.view 0 0 0 1 x14.1.length)) (.i x14.2) rfl ?_
 refine zB (zJ ?_)
 obtain rfl := Option.some.inj h
 exact ⟨⟨_, rfl, (.tup (.cons .r (.cons .r .nil)))⟩, ⟨rfl, trivial⟩, rfl⟩
theorem zDt (p0 : (Option Nat)) (p1 : Int) (w0 : Hp) (r : ((List UInt8) × Int)) (h : zAP p0 p1 w0 = some r) : FCH Try.prog 121 [.t ((ptT 7 p0)), .t (.d (.lit (.int .i64 p1)))] [] [gbA cU8 r.1] (hpA w0) (hpA w0) (.tup [.view 0 0 0 1 r.1.length, .d (.lit (.int .i64 r.2))]) := by
 refine qY (rs := [.tmp 4, .tmp 5]) (n := 23) [0] Try.func121 rfl rfl (Nat.le_of_ble_eq_true rfl) rfl (pins := []) rfl (L := [(HK, .hp (hpA w0)), (OB + 0, .free), (0, .t ((ptT 7 p0))), (1, .i p1)]) rfl ?_
 refine c_sr ?_
 refine o_m2 (.n) (.i 0) rfl ?_
 refine zB (zL (c_sr ?_))
 refine o_of (e := [(8, .t ((ptT 7 p0)))]) (g0 rfl) (h_mv mR (.inl rfl) (zM rfl) rfl rfl) rfl ?_
 rcases qQ h with ⟨h1, h⟩ | ⟨i2, h1, h⟩
 ·
  refine o_of (e := [(9, .b true)]) (g0 rfl) (h_pn mR (ng := false) rfl rfl rfl (zDp rfl h1) rfl rfl) rfl ?_
  refine zB ?_
  refine c_t rfl rfl ?_
  refine c_sr ?_
  refine o_m2 (.n) (.i 1) rfl ?_
  refine zB (zJ ?_)
  obtain rfl := Option.some.inj h
  exact ⟨⟨_, rfl, (.tup (.cons (.nilView _ _ _ _) (.cons .r .nil)))⟩, ⟨rfl, trivial⟩, rfl⟩
 refine o_of (e := [(9, .b false)]) (g0 rfl) (h_pn mR (ng := false) rfl rfl rfl (zDm rfl h1) rfl rfl) rfl ?_
 refine zB ?_
 refine c_f rfl rfl ?_
 refine zK (c_sr ?_)
 refine o_of (e := [(11, .t (.hpt (cd 7 i2) 0))]) (g0 rfl) (h_mv mR (.inl rfl) ((zM rfl).trans (yA h1)) rfl rfl) rfl ?_
 refine o_of (e := [(12, .t (.hpt (cd 7 i2) 0))]) (g0 rfl) (h_nc mR rfl rfl rfl rfl rfl) rfl ?_
 refine o_of (e := [(13, .t (.hpt (cd 7 i2) 0))]) (g0 rfl) (h_fd mR rfl rfl rfl rfl rfl rfl) rfl ?_
 obtain ⟨x3, h4, h⟩ := bind_some h
 refine o_of (e := [(14, .t ((ptT 5 x3.t_)))]) (g0 rfl) (h_ld mR rfl rfl rfl rfl (zHt h4) rfl (zA0 _ _) rfl rfl) rfl ?_
 refine o_1 (.i p1) rfl ?_
 obtain ⟨x5, h6, h⟩ := bind_some h
 refine o_of (e := [((OB + 0), gbA cU8 x5.1), (16, .tup [.view 0 0 0 1 x5.1.length, .i x5.2])]) (g0 rfl) (qL mR rfl (σ := []) (fr := [0]) rfl rfl rfl rfl rfl rfl rfl (zFG _ _ w0 _ h6) (zD _) rfl rfl (by simp [zGA]) rfl (.cons (yJ rfl) (.cons (.plain .r rfl) .nil)) rfl (.tup (.cons (.view rfl) (.cons (.flat rfl) .nil)))) rfl ?_
 refine o_m5 (.tup [.view 0 0 0 1 x5.1.length, .i x5.2]) (.t (.view 0 0 0 1 x5.1.length)) (.i x5.2) (.t (.view 0 0 0 1 x5.1.length)) (.i x5.2) rfl ?_
 refine zB ?_
 refine zEZ (fun (y7 : Int) => [(6, .t (.view 0 0 0 1 x5.1.length)), (7, .i y7), ((OB + 0), gbA cU8 x5.1), (HK, .hp (hpA w0))]) (fun (y7 : Int) => zBB x5 y7 = some r) ?_ ?_
 ·
  refine c_sr ?_
  refine o_m2 (.i x5.2) (.b (x5.2 == 31)) rfl ?_
  refine zB ?_
  rcases zF h with ⟨h8, h⟩ | ⟨h8, h⟩
  ·
   refine c_t h8 rfl ?_
   refine zS ?_
   refine o_1 (.i 11) rfl ?_
   refine zB ?_
   exact ⟨11, [], h, rfl, ⟨.inr ⟨_, rfl, zD _⟩, by (repeat (first | exact ObP.nil | refine ObP.cons (.inl rfl) ?_ | refine ObP.cons (.inr (fun _ => rfl)) ?_ | refine ObP.cons (.inr (qW (zP _ _))) ?_ | refine ObP.cons (.inr (zAJ _ _)) ?_))⟩, ⟨.r, .r, .r, .r, trivial⟩, (by ((refine nr_of ?_; repeat (first | exact nr_nil | refine zHk rfl ?_ | refine zHk (nr_gb _ _ _) ?_))))⟩
  refine c_f h8 rfl ?_
  refine zK ?_
  exact ⟨x5.2, [], h, rfl, ⟨.inr ⟨_, rfl, zD _⟩, by (repeat (first | exact ObP.nil | refine ObP.cons (.inl rfl) ?_ | refine ObP.cons (.inr (fun _ => rfl)) ?_ | refine ObP.cons (.inr (qW (zP _ _))) ?_ | refine ObP.cons (.inr (zAJ _ _)) ?_))⟩, ⟨.r, .r, .r, .r, trivial⟩, (by ((refine nr_of ?_; repeat (first | exact nr_nil | refine zHk rfl ?_ | refine zHk (nr_gb _ _ _) ?_))))⟩
 rintro y7 h
 refine c_sr ?_
 refine o_m4 (.t (.view 0 0 0 1 x5.1.length)) (.i y7) (.t (.view 0 0 0 1 x5.1.length)) (.i y7) rfl ?_
 refine zB (zJ ?_)
 obtain rfl := Option.some.inj h
 exact ⟨⟨_, rfl, (.tup (.cons .r (.cons .r .nil)))⟩, ⟨rfl, trivial⟩, rfl⟩
theorem zDA (p0 : (Option Nat)) (p1 : zW) (p2 : Int) (w0 : Hp) (r : (Int × Hp)) (h : zAa p0 p1 p2 w0 = some r) : FCH Try.prog 94 [.t ((ptT 7 p0)), .t (.agg [.lit (.int .i64 p1.home_), .lit (.int .i64 p1.off_)]), .t (.d (.lit (.int .i64 p2)))] [] [] (hpA w0) (hpA r.2) (.t (.d (.lit (.int .i64 r.1)))) := by
 refine qY (rs := [.tmp 6]) (n := 36) [0] Try.func94 rfl rfl (Nat.le_of_ble_eq_true rfl) rfl (pins := []) rfl (L := [(HK, .hp (hpA w0)), (OB + 0, .free), (0, .t ((ptT 7 p0))), (1, .t (.agg [.i p1.home_, .i p1.off_])), (2, .i p2)]) rfl ?_
 refine c_sr ?_
 refine o_m2 (.box [.i p1.home_, .i p1.off_]) (.i 0) rfl ?_
 refine zB (c_sr ?_)
 refine o_of (e := [(10, .t ((ptT 7 p0)))]) (g0 rfl) (h_mv mR (.inl rfl) (zM rfl) rfl rfl) rfl ?_
 refine o_m2 (.ref 4 0) (.i p1.home_) rfl ?_
 obtain ⟨x1, h2, h⟩ := bind_some h
 refine o_of (e := [((OB + 0), gbA cU8 x1.1), (13, .tup [.view 0 0 0 1 x1.1.length, .i x1.2])]) (g0 rfl) (qL mR rfl (σ := []) (fr := [0]) rfl rfl rfl rfl rfl rfl rfl (zDt _ _ w0 _ h2) (zD _) rfl rfl (by simp [zGA]) rfl (.cons (yJ rfl) (.cons (.plain .r rfl) .nil)) rfl (.tup (.cons (.view rfl) (.cons (.flat rfl) .nil)))) rfl ?_
 refine o_m5 (.tup [.view 0 0 0 1 x1.1.length, .i x1.2]) (.t (.view 0 0 0 1 x1.1.length)) (.i x1.2) (.t (.view 0 0 0 1 x1.1.length)) (.i x1.2) rfl ?_
 refine zB (zL (c_sr ?_))
 refine o_m2 (.i x1.2) (.b (x1.2 != 0)) rfl ?_
 refine zB ?_
 rcases zF h with ⟨h3, h⟩ | ⟨h3, h⟩
 ·
  refine c_t h3 rfl ?_
  refine c_sr ?_
  refine o_m2 (.i x1.2) (.i x1.2) rfl ?_
  refine zB (zJ ?_)
  obtain rfl := Option.some.inj h
  exact ⟨⟨_, rfl, .r⟩, trivial, rfl⟩
 refine c_f h3 rfl ?_
 refine zK (c_sr ?_)
 refine o_m6 (.t (.view 0 0 0 1 x1.1.length)) (.ref 4 1) (.i p1.off_) (.ref 4 1) (.i p1.off_) (.i (wi (p1.off_ + 4))) rfl ?_
 obtain ⟨x4, h5, h⟩ := bind_some h
 refine o_of (e := [(25, .t (.view 0 (0 + Int.toNat p1.off_ * 1) 0 1 (Int.toNat (wi (p1.off_ + 4)) - Int.toNat p1.off_)))]) (g0 rfl) (zFB mR rfl rfl rfl rfl rfl rfl rfl (zBc h5) rfl rfl rfl rfl) rfl ?_
 refine o_1 (.i p2) rfl ?_
 rcases zF h with ⟨h6, h⟩ | ⟨h6, h⟩
 ·
  exact qV h
 obtain ⟨x7, h8, h⟩ := bind_some h
 refine o_of (e := [((OB + 0), .box (fl (dT cU8) x7)), (27, .tup [])]) (g0 rfl) (qL mR rfl (σ := [0]) (fr := []) rfl rfl rfl rfl rfl rfl rfl (zBd _ _ _ _ w0 _ h8) (zD _) rfl (by simp [A.flatO, zP]) (by simp [A.flatO, zP]) (cons_eq (gb_ne (isE_ne h6)) rfl) (.cons (zEm rfl rfl) (.cons (.plain .r rfl) .nil)) rfl (.tup .nil)) rfl ?_
 obtain ⟨x9, h10, h⟩ := bind_some h
 have h10 : x7.length = x1.1.length := zAu h10
 refine zB (zL ?_)
 rcases qQ h with ⟨h11, h⟩ | ⟨i12, h11, h⟩
 ·
  rw [zAE (t := 7) h11]
  refine zJs 7 0 rfl rfl (by first | (simp; done) | (rw [List.length_map]; omega)) (zCm _ _) (zEW (c := cU8) (fun _ => rfl) _) rfl ⟨.inr ⟨_, rfl, zD _⟩, by (repeat (first | exact ObP.nil | refine ObP.cons (.inl rfl) ?_ | refine ObP.cons (.inr (fun _ => rfl)) ?_ | refine ObP.cons (.inr (qW (zP _ _))) ?_ | refine ObP.cons (.inr (zAJ _ _)) ?_))⟩ rfl ?_
  refine zAC zBM (by kernel_rfl) ?_
  refine d_h0 [] (e := [(28, .t (.d (.lit (.pointer none))))]) (ks := [28]) rfl (dg0 rfl) rfl rfl (fun S' hM hok => h_mv hM (.inl rfl) rfl rfl (hok _ rfl rfl)) rfl ?_
  exact qV h
 rw [yA (t := 7) h11]
 refine zJs 7 0 rfl rfl (by first | (simp; done) | (rw [List.length_map]; omega)) (zCm _ _) (zEW (c := cU8) (fun _ => rfl) _) rfl ⟨.inr ⟨_, rfl, zD _⟩, by (repeat (first | exact ObP.nil | refine ObP.cons (.inl rfl) ?_ | refine ObP.cons (.inr (fun _ => rfl)) ?_ | refine ObP.cons (.inr (qW (zP _ _))) ?_ | refine ObP.cons (.inr (zAJ _ _)) ?_))⟩ rfl ?_
 refine zAC zBM (by kernel_rfl) ?_
 refine d_h0 [] (e := [(28, .t (.hpt (cd 7 i12) 0))]) (ks := [28]) rfl (dg0 rfl) rfl rfl (fun S' hM hok => h_mv hM (.inl rfl) rfl rfl (hok _ rfl rfl)) rfl ?_
 refine d_h0 [] (e := [(29, .t (.hpt (cd 7 i12) 0))]) (ks := [29]) rfl (dg0 rfl) rfl rfl (fun S' hM hok => h_nc hM rfl rfl rfl rfl (hok _ rfl rfl)) rfl ?_
 refine d_h0 [] (e := [(30, .t (.hpt (cd 7 i12) 0))]) (ks := [30]) rfl (dg0 rfl) rfl rfl (fun S' hM hok => h_fd hM rfl rfl rfl rfl rfl (hok _ rfl rfl)) rfl ?_
 obtain ⟨x13, h14, h⟩ := bind_some h
 refine d_h (e := [(31, .t ((ptT 5 x13.t_)))]) (ks := [31]) rfl (dg0 rfl) rfl rfl (fun S' hM hk hok => h_ld hM hk rfl rfl rfl (zHt h14) rfl (zA0 _ _) rfl (hok _ rfl rfl)) rfl ?_
 refine d_s (.ref 4 0) rfl (dg0 rfl) rfl rfl rfl rfl ?_
 refine d_s (.i p1.home_) rfl (dg0 rfl) rfl rfl rfl rfl ?_
 refine d_s (.y x7) rfl (dg0 rfl) rfl rfl rfl rfl ?_
 obtain ⟨x15, h16, h⟩ := bind_some h
 refine d_h (e := [(HK, .hp (hpA x15.2)), (35, .i x15.1)]) (ks := [HK, 35]) rfl (dg0 rfl) rfl rfl (fun S' hM hk hok => zBS hM hk (σ := []) (fr := []) rfl rfl rfl (hok _ rfl rfl) rfl rfl rfl (zB4 _ _ _ w0 _ h16) (zD _) (zD _) rfl rfl rfl rfl (.cons (yJ rfl) (.cons (.plain .r rfl) (.cons (.plain .r rfl) .nil))) rfl (.t (.flat rfl))) rfl ?_
 refine d_s (.i x15.1) rfl (dg0 rfl) rfl rfl rfl rfl ?_
 refine zAd (by kernel_rfl) ?_
 refine zJ ?_
 obtain rfl := Option.some.inj h
 exact ⟨⟨_, rfl, .r⟩, trivial, rfl⟩
theorem zCL (p0 : (Option Nat)) (p1 : Int) (p2 : zA) (w0 : Hp) (r : (Int × Hp)) (h : yI p0 p1 p2 w0 = some r) : FCH Try.prog 45 [.t ((ptT 7 p0)), .t (.d (.lit (.int .i64 p1))), .t (.agg [.lit (.string ⟨⟨p2.Key⟩⟩), .lit (.int .i64 p2.Version), .lit (.int .i64 p2.Len), .lit (.int .i64 p2.First)])] [] [] (hpA w0) (hpA r.2) (.t (.d (.lit (.int .i64 r.1)))) := by
 refine qY (rs := [.tmp 6]) (n := 98) [] Try.func45 rfl rfl (Nat.le_of_ble_eq_true rfl) rfl (pins := []) rfl (L := [(HK, .hp (hpA w0)), (0, .t ((ptT 7 p0))), (1, .i p1), (2, .t (.agg [.s p2.Key, .i p2.Version, .i p2.Len, .i p2.First]))]) rfl ?_
 refine c_sr ?_
 refine o_m2 (.box [.s p2.Key, .i p2.Version, .i p2.Len, .i p2.First]) (.i 0) rfl ?_
 refine zB ?_
 refine zEZ (fun (_ : Unit) => [(0, .t ((ptT 7 p0))), (1, .i p1), (5, .box [.s p2.Key, .i p2.Version, .i p2.Len, .i p2.First]), (HK, .hp (hpA w0))]) (fun (_ : Unit) => zAh p0 p2 w0 p1 = some r) ?_ ?_
 ·
  refine c_sr ?_
  refine o_1 (.t (.agg [.s p2.Key, .i p2.Version, .i p2.Len, .i p2.First])) rfl ?_
  obtain ⟨x25, h26, h⟩ := bind_some h
  refine o_ca (zEb _ _ h26) (g0 rfl) rfl rfl rfl rfl rfl rfl rfl (.cons .r .nil) rfl rfl ?_
  refine o_m2 (.b (!x25)) (.b (!x25)) rfl ?_
  rcases zF h with ⟨h27, h⟩ | ⟨h27, h⟩
  ·
   refine zC rfl rfl rfl h27 rfl rfl ?_
   refine zC rfl rfl rfl h27 rfl rfl ?_
   refine o_pk (.b true) (b := true) h27 (g0 rfl) rfl rfl rfl rfl rfl ?_
   refine o_1 (.b true) rfl ?_
   refine zC rfl rfl rfl rfl rfl rfl ?_
   refine zC rfl rfl rfl rfl rfl rfl ?_
   refine o_pk (.b true) (b := true) rfl (g0 rfl) rfl rfl rfl rfl rfl ?_
   refine o_1 (.b true) rfl ?_
   refine zC rfl rfl rfl rfl rfl rfl ?_
   refine zC rfl rfl rfl rfl rfl rfl ?_
   refine zC rfl rfl rfl rfl rfl rfl ?_
   refine o_un rfl rfl rfl rfl rfl ?_
   refine o_un rfl rfl rfl rfl rfl ?_
   refine o_un rfl rfl rfl rfl rfl ?_
   refine o_un rfl rfl rfl rfl rfl ?_
   refine o_un rfl rfl rfl rfl rfl ?_
   refine o_un rfl rfl rfl rfl rfl ?_
   refine zC rfl rfl rfl rfl rfl rfl ?_
   refine zC rfl rfl rfl rfl rfl rfl ?_
   refine o_un rfl rfl rfl rfl rfl ?_
   refine o_un rfl rfl rfl rfl rfl ?_
   refine o_un rfl rfl rfl rfl rfl ?_
   refine o_un rfl rfl rfl rfl rfl ?_
   refine o_un rfl rfl rfl rfl rfl ?_
   refine o_un rfl rfl rfl rfl rfl ?_
   refine o_un rfl rfl rfl rfl rfl ?_
   refine zC rfl rfl rfl rfl rfl rfl ?_
   refine o_pk (.b true) (b := true) rfl (g0 rfl) rfl rfl rfl rfl rfl ?_
   refine zB ?_
   refine c_t rfl rfl ?_
   refine c_sr ?_
   refine o_1 (.i 2) rfl ?_
   refine zB (zJ ?_)
   obtain rfl := Option.some.inj h
   exact ⟨⟨_, rfl, .r⟩, trivial, rfl⟩
  refine o_s (.i p1) (gy rfl rfl rfl h27) rfl rfl rfl ?_
  refine o_s (.b (decide (p1 < 1))) (gy rfl rfl rfl h27) rfl rfl rfl ?_
  refine o_pk (.b (decide (p1 < 1))) (b := false) h27 (g0 rfl) rfl rfl rfl rfl rfl ?_
  refine o_1 (.b (decide (p1 < 1))) rfl ?_
  rcases zF h with ⟨h28, h⟩ | ⟨h28, h⟩
  ·
   refine zC rfl rfl rfl h28 rfl rfl ?_
   refine zC rfl rfl rfl h28 rfl rfl ?_
   refine o_pk (.b true) (b := true) h28 (g0 rfl) rfl rfl rfl rfl rfl ?_
   refine o_1 (.b true) rfl ?_
   refine zC rfl rfl rfl rfl rfl rfl ?_
   refine zC rfl rfl rfl rfl rfl rfl ?_
   refine zC rfl rfl rfl rfl rfl rfl ?_
   refine o_un rfl rfl rfl rfl rfl ?_
   refine o_un rfl rfl rfl rfl rfl ?_
   refine o_un rfl rfl rfl rfl rfl ?_
   refine o_un rfl rfl rfl rfl rfl ?_
   refine o_un rfl rfl rfl rfl rfl ?_
   refine o_un rfl rfl rfl rfl rfl ?_
   refine zC rfl rfl rfl rfl rfl rfl ?_
   refine zC rfl rfl rfl rfl rfl rfl ?_
   refine o_un rfl rfl rfl rfl rfl ?_
   refine o_un rfl rfl rfl rfl rfl ?_
   refine o_un rfl rfl rfl rfl rfl ?_
   refine o_un rfl rfl rfl rfl rfl ?_
   refine o_un rfl rfl rfl rfl rfl ?_
   refine o_un rfl rfl rfl rfl rfl ?_
   refine o_un rfl rfl rfl rfl rfl ?_
   refine zC rfl rfl rfl rfl rfl rfl ?_
   refine o_pk (.b true) (b := true) rfl (g0 rfl) rfl rfl rfl rfl rfl ?_
   refine zB ?_
   refine c_t rfl rfl ?_
   refine c_sr ?_
   refine o_1 (.i 2) rfl ?_
   refine zB (zJ ?_)
   obtain rfl := Option.some.inj h
   exact ⟨⟨_, rfl, .r⟩, trivial, rfl⟩
  refine o_s (.i p1) (gy rfl rfl rfl h28) rfl rfl rfl ?_
  refine o_s (.b (decide (p1 > 16384))) (gy rfl rfl rfl h28) rfl rfl rfl ?_
  refine o_pk (.b (decide (p1 > 16384))) (b := false) h28 (g0 rfl) rfl rfl rfl rfl rfl ?_
  refine o_1 (.b (decide (p1 > 16384))) rfl ?_
  rcases zF h with ⟨h29, h⟩ | ⟨h29, h⟩
  ·
   refine zC rfl rfl rfl h29 rfl rfl ?_
   refine zC rfl rfl rfl h29 rfl rfl ?_
   refine zC rfl rfl rfl h29 rfl rfl ?_
   refine o_un rfl rfl rfl rfl rfl ?_
   refine o_un rfl rfl rfl rfl rfl ?_
   refine o_un rfl rfl rfl rfl rfl ?_
   refine o_un rfl rfl rfl rfl rfl ?_
   refine o_un rfl rfl rfl rfl rfl ?_
   refine o_un rfl rfl rfl rfl rfl ?_
   refine zC rfl rfl rfl h29 rfl rfl ?_
   refine zC rfl rfl rfl h29 rfl rfl ?_
   refine o_un rfl rfl rfl rfl rfl ?_
   refine o_un rfl rfl rfl rfl rfl ?_
   refine o_un rfl rfl rfl rfl rfl ?_
   refine o_un rfl rfl rfl rfl rfl ?_
   refine o_un rfl rfl rfl rfl rfl ?_
   refine o_un rfl rfl rfl rfl rfl ?_
   refine o_un rfl rfl rfl rfl rfl ?_
   refine zC rfl rfl rfl h29 rfl rfl ?_
   refine o_pk (.b true) (b := true) h29 (g0 rfl) rfl rfl rfl rfl rfl ?_
   refine zB ?_
   refine c_t rfl rfl ?_
   refine c_sr ?_
   refine o_1 (.i 2) rfl ?_
   refine zB (zJ ?_)
   obtain rfl := Option.some.inj h
   exact ⟨⟨_, rfl, .r⟩, trivial, rfl⟩
  refine o_of (e := [(28, .t ((ptT 7 p0)))]) (gy rfl rfl rfl h29) (h_mv mR (.inl rfl) (zM rfl) rfl rfl) rfl ?_
  rcases qQ h with ⟨h30, h⟩ | ⟨i31, h30, h⟩
  ·
   refine o_of (e := [(29, .b false)]) (gy rfl rfl rfl h29) (h_pn mR (ng := true) rfl rfl rfl (zDp rfl h30) rfl rfl) rfl ?_
   refine o_s (.b false) (gy rfl rfl rfl h29) rfl rfl rfl ?_
   refine zC rfl rfl rfl rfl rfl rfl ?_
   refine zC rfl rfl rfl rfl rfl rfl ?_
   refine zC rfl rfl rfl rfl rfl rfl ?_
   refine zC rfl rfl rfl rfl rfl rfl ?_
   refine zC rfl rfl rfl rfl rfl rfl ?_
   refine zC rfl rfl rfl rfl rfl rfl ?_
   refine o_pk (.b false) (b := false) rfl (gy rfl rfl rfl h29) rfl rfl rfl rfl rfl ?_
   refine o_s (.b false) (gy rfl rfl rfl h29) rfl rfl rfl ?_
   refine zC rfl rfl rfl rfl rfl rfl ?_
   refine zC rfl rfl rfl rfl rfl rfl ?_
   refine zC rfl rfl rfl rfl rfl rfl ?_
   refine zC rfl rfl rfl rfl rfl rfl ?_
   refine zC rfl rfl rfl rfl rfl rfl ?_
   refine zC rfl rfl rfl rfl rfl rfl ?_
   refine zC rfl rfl rfl rfl rfl rfl ?_
   refine o_pk (.b false) (b := false) rfl (gy rfl rfl rfl h29) rfl rfl rfl rfl rfl ?_
   refine o_pk (.b false) (b := false) h29 (g0 rfl) rfl rfl rfl rfl rfl ?_
   refine zB ?_
   refine c_f rfl rfl ?_
   refine zK ?_
   exact ⟨(), [], h, rfl, ⟨.inr ⟨_, rfl, zD _⟩, by (repeat (first | exact ObP.nil | refine ObP.cons (.inl rfl) ?_ | refine ObP.cons (.inr (fun _ => rfl)) ?_ | refine ObP.cons (.inr (qW (zP _ _))) ?_ | refine ObP.cons (.inr (zAJ _ _)) ?_))⟩, ⟨.r, .r, .r, .r, trivial⟩, rfl⟩
  refine o_of (e := [(29, .b true)]) (gy rfl rfl rfl h29) (h_pn mR (ng := true) rfl rfl rfl (zDm rfl h30) rfl rfl) rfl ?_
  refine o_s (.b true) (gy rfl rfl rfl h29) rfl rfl rfl ?_
  refine o_s (.i p1) (gy rfl rfl rfl rfl) rfl rfl rfl ?_
  refine o_of (e := [(32, .t (.hpt (cd 7 i31) 0))]) (gy rfl rfl rfl rfl) (h_mv mR (.inl rfl) ((zM rfl).trans (yA h30)) rfl rfl) rfl ?_
  refine o_of (e := [(33, .t (.hpt (cd 7 i31) 0))]) (gy rfl rfl rfl rfl) (h_nc mR rfl rfl rfl rfl rfl) rfl ?_
  refine o_of (e := [(34, .t (.hpt (cd 7 i31) 1))]) (gy rfl rfl rfl rfl) (h_fd mR rfl rfl rfl rfl rfl rfl) rfl ?_
  obtain ⟨x32, h33, h⟩ := bind_some h
  refine o_of (e := [(35, .i x32.table_)]) (gy rfl rfl rfl rfl) (h_ld mR rfl rfl rfl rfl (zHt h33) rfl rfl rfl rfl) rfl ?_
  refine o_s (.b (decide (p1 ≥ x32.table_))) (gy rfl rfl rfl rfl) rfl rfl rfl ?_
  refine o_pk (.b (decide (p1 ≥ x32.table_))) (b := true) rfl (gy rfl rfl rfl h29) rfl rfl rfl rfl rfl ?_
  refine o_s (.b (decide (p1 ≥ x32.table_))) (gy rfl rfl rfl h29) rfl rfl rfl ?_
  rcases zF h with ⟨h34, h⟩ | ⟨h34, h⟩
  ·
   refine o_s (.i p1) (gy rfl rfl rfl h34) rfl rfl rfl ?_
   refine o_of (e := [(40, .t (.hpt (cd 7 i31) 0))]) (gy rfl rfl rfl h34) (h_mv mR (.inl rfl) ((zM rfl).trans (yA h30)) rfl rfl) rfl ?_
   refine o_of (e := [(41, .t (.hpt (cd 7 i31) 0))]) (gy rfl rfl rfl h34) (h_nc mR rfl rfl rfl rfl rfl) rfl ?_
   refine o_of (e := [(42, .t (.hpt (cd 7 i31) 1))]) (gy rfl rfl rfl h34) (h_fd mR rfl rfl rfl rfl rfl rfl) rfl ?_
   refine o_of (e := [(43, .i x32.table_)]) (gy rfl rfl rfl h34) (h_ld mR rfl rfl rfl rfl (zHt h33) rfl rfl rfl rfl) rfl ?_
   refine o_s (.i (wi (p1 - x32.table_))) (gy rfl rfl rfl h34) rfl rfl rfl ?_
   refine o_s (.b (decide ((wi (p1 - x32.table_)) < 4))) (gy rfl rfl rfl h34) rfl rfl rfl ?_
   refine o_pk (.b (decide ((wi (p1 - x32.table_)) < 4))) (b := true) h34 (gy rfl rfl rfl h29) rfl rfl rfl rfl rfl ?_
   refine o_pk (.b (decide ((wi (p1 - x32.table_)) < 4))) (b := false) h29 (g0 rfl) rfl rfl rfl rfl rfl ?_
   refine zB ?_
   rcases zF h with ⟨h35, h⟩ | ⟨h35, h⟩
   ·
    refine c_t h35 rfl ?_
    refine c_sr ?_
    refine o_1 (.i 2) rfl ?_
    refine zB (zJ ?_)
    obtain rfl := Option.some.inj h
    exact ⟨⟨_, rfl, .r⟩, trivial, rfl⟩
   refine c_f h35 rfl ?_
   refine zK ?_
   exact ⟨(), [], h, rfl, ⟨.inr ⟨_, rfl, zD _⟩, by (repeat (first | exact ObP.nil | refine ObP.cons (.inl rfl) ?_ | refine ObP.cons (.inr (fun _ => rfl)) ?_ | refine ObP.cons (.inr (qW (zP _ _))) ?_ | refine ObP.cons (.inr (zAJ _ _)) ?_))⟩, ⟨.r, .r, .r, .r, trivial⟩, rfl⟩
  refine zC rfl rfl rfl h34 rfl rfl ?_
  refine zC rfl rfl rfl h34 rfl rfl ?_
  refine zC rfl rfl rfl h34 rfl rfl ?_
  refine zC rfl rfl rfl h34 rfl rfl ?_
  refine zC rfl rfl rfl h34 rfl rfl ?_
  refine zC rfl rfl rfl h34 rfl rfl ?_
  refine zC rfl rfl rfl h34 rfl rfl ?_
  refine o_pk (.b false) (b := false) h34 (gy rfl rfl rfl h29) rfl rfl rfl rfl rfl ?_
  refine o_pk (.b false) (b := false) h29 (g0 rfl) rfl rfl rfl rfl rfl ?_
  refine zB ?_
  refine c_f rfl rfl ?_
  refine zK ?_
  exact ⟨(), [], h, rfl, ⟨.inr ⟨_, rfl, zD _⟩, by (repeat (first | exact ObP.nil | refine ObP.cons (.inl rfl) ?_ | refine ObP.cons (.inr (fun _ => rfl)) ?_ | refine ObP.cons (.inr (qW (zP _ _))) ?_ | refine ObP.cons (.inr (zAJ _ _)) ?_))⟩, ⟨.r, .r, .r, .r, trivial⟩, rfl⟩
 rintro ⟨⟩ h
 refine zL (c_sr ?_)
 refine o_of (e := [(49, .t ((ptT 7 p0)))]) (g0 rfl) (h_mv mR (.inl rfl) (zM rfl) rfl rfl) rfl ?_
 refine o_m2 (.ref 5 0) (.s p2.Key) rfl ?_
 obtain ⟨x1, h2, h⟩ := bind_some h
 refine o_of (e := [(52, .tup [.agg [.i x1.1.home_, .i x1.1.off_], .i x1.2.1, .agg [.s x1.2.2.1.Entry.Key, .i x1.2.2.1.Entry.Version, .i x1.2.2.1.Entry.Len, .i x1.2.2.1.Entry.First, .i x1.2.2.1.next_], .i x1.2.2.2])]) (g0 rfl) (qL mR rfl (σ := []) (fr := []) rfl rfl rfl rfl rfl rfl rfl (zBE _ _ w0 _ h2) (zD _) rfl rfl rfl rfl (.cons (yJ rfl) (.cons (.plain .r rfl) .nil)) rfl (.tup (.cons (.flat rfl) (.cons (.flat rfl) (.cons (.flat rfl) (.cons (.flat rfl) .nil)))))) rfl ?_
 refine o_m7 (.tup [.agg [.i x1.1.home_, .i x1.1.off_], .i x1.2.1, .agg [.s x1.2.2.1.Entry.Key, .i x1.2.2.1.Entry.Version, .i x1.2.2.1.Entry.Len, .i x1.2.2.1.Entry.First, .i x1.2.2.1.next_], .i x1.2.2.2]) (.t (.agg [.i x1.1.home_, .i x1.1.off_])) (.i x1.2.1) (.t (.agg [.s x1.2.2.1.Entry.Key, .i x1.2.2.1.Entry.Version, .i x1.2.2.1.Entry.Len, .i x1.2.2.1.Entry.First, .i x1.2.2.1.next_])) (.i x1.2.2.2) (.box [.i 0, .i 0]) (.box [.s [], .i 0, .i 0, .i 0, .i 0]) rfl ?_
 refine o_st (.box [.i x1.1.home_, .i x1.1.off_]) (g0 rfl) rfl rfl rfl ?_
 refine o_1 (.i x1.2.1) rfl ?_
 refine o_st (.box [.s x1.2.2.1.Entry.Key, .i x1.2.2.1.Entry.Version, .i x1.2.2.1.Entry.Len, .i x1.2.2.1.Entry.First, .i x1.2.2.1.next_]) (g0 rfl) rfl rfl rfl ?_
 refine o_1 (.i x1.2.2.2) rfl ?_
 refine zB (c_sr ?_)
 refine o_m2 (.i x1.2.2.2) (.b (x1.2.2.2 != 35)) rfl ?_
 refine zB ?_
 rcases zF h with ⟨h3, h⟩ | ⟨h3, h⟩
 ·
  refine c_t h3 rfl ?_
  refine zL (c_sr ?_)
  refine o_m2 (.i x1.2.2.2) (.b (x1.2.2.2 == 0)) rfl ?_
  refine zB ?_
  rcases zF h with ⟨h4, h⟩ | ⟨h4, h⟩
  ·
   refine c_t h4 rfl ?_
   refine c_sr ?_
   refine o_1 (.i 42) rfl ?_
   refine zB (zJ ?_)
   obtain rfl := Option.some.inj h
   exact ⟨⟨_, rfl, .r⟩, trivial, rfl⟩
  refine c_f h4 rfl ?_
  refine zK (c_sr ?_)
  refine o_m2 (.i x1.2.2.2) (.i x1.2.2.2) rfl ?_
  refine zB (zJ ?_)
  obtain rfl := Option.some.inj h
  exact ⟨⟨_, rfl, .r⟩, trivial, rfl⟩
 refine c_f h3 rfl ?_
 refine zK (c_sr ?_)
 refine o_m2 (.ref 5 0) (.s p2.Key) rfl ?_
 obtain ⟨x5, h6, h⟩ := bind_some h
 refine o_ca (zBJ _ _ h6) (g0 rfl) rfl rfl rfl rfl rfl rfl rfl (.cons .r .nil) rfl rfl ?_
 refine o_m5 (.tup [.i x5.1, .b x5.2]) (.i x5.1) (.b x5.2) (.i x5.1) (.b x5.2) rfl ?_
 refine zB (c_sr ?_)
 refine o_of (e := [(69, .t ((ptT 7 p0)))]) (g0 rfl) (h_mv mR (.inl rfl) (zM rfl) rfl rfl) rfl ?_
 refine o_of (e := [(70, .t ((ptT 7 p0)))]) (g0 rfl) (h_mv mR (.inl rfl) (zM rfl) rfl rfl) rfl ?_
 refine o_1 (.i x5.1) rfl ?_
 obtain ⟨x7, h8, h⟩ := bind_some h
 refine o_of (e := [(72, .t (.agg [.i x7.home_, .i x7.off_]))]) (g0 rfl) (qL mR rfl (σ := []) (fr := []) rfl rfl rfl rfl rfl rfl rfl (zBD _ _ w0 _ h8) (zD _) rfl rfl rfl rfl (.cons (yJ rfl) (.cons (.plain .r rfl) .nil)) rfl (.t (.flat rfl))) rfl ?_
 obtain ⟨x9, h10, h⟩ := bind_some h
 refine o_of (e := [(73, .tup [.i x9.1, .i x9.2])]) (g0 rfl) (qL mR rfl (σ := []) (fr := []) rfl rfl rfl rfl rfl rfl rfl (zBs _ _ w0 _ h10) (zD _) rfl rfl rfl rfl (.cons (yJ rfl) (.cons (.plain .r rfl) .nil)) rfl (.tup (.cons (.flat rfl) (.cons (.flat rfl) .nil)))) rfl ?_
 refine o_m5 (.tup [.i x9.1, .i x9.2]) (.i x9.1) (.i x9.2) (.i x9.1) (.i x9.2) rfl ?_
 refine zB (zL (c_sr ?_))
 refine o_m2 (.i x9.2) (.b (x9.2 != 0)) rfl ?_
 refine zB ?_
 rcases zF h with ⟨h11, h⟩ | ⟨h11, h⟩
 ·
  refine c_t h11 rfl ?_
  refine c_sr ?_
  refine o_m2 (.i x9.2) (.i x9.2) rfl ?_
  refine zB (zJ ?_)
  obtain rfl := Option.some.inj h
  exact ⟨⟨_, rfl, .r⟩, trivial, rfl⟩
 refine c_f h11 rfl ?_
 refine zK (zL (zL ?_))
 refine zAC zBM (by kernel_rfl) ?_
 rcases qQ h with ⟨h12, h⟩ | ⟨i13, h12, h⟩
 ·
  refine d_h0 [] (e := [(79, .t (.d (.lit (.pointer none))))]) (ks := [79]) rfl (dg0 rfl) rfl rfl (fun S' hM hok => h_mv hM (.inl rfl) ((zM rfl).trans (zAE h12)) rfl (hok _ rfl rfl)) rfl ?_
  exact qV h
 refine d_h0 [] (e := [(79, .t (.hpt (cd 7 i13) 0))]) (ks := [79]) rfl (dg0 rfl) rfl rfl (fun S' hM hok => h_mv hM (.inl rfl) ((zM rfl).trans (yA h12)) rfl (hok _ rfl rfl)) rfl ?_
 refine d_h0 [] (e := [(80, .t (.hpt (cd 7 i13) 0))]) (ks := [80]) rfl (dg0 rfl) rfl rfl (fun S' hM hok => h_nc hM rfl rfl rfl rfl (hok _ rfl rfl)) rfl ?_
 refine d_h0 [] (e := [(81, .t (.hpt (cd 7 i13) 0))]) (ks := [81]) rfl (dg0 rfl) rfl rfl (fun S' hM hok => h_fd hM rfl rfl rfl rfl rfl (hok _ rfl rfl)) rfl ?_
 obtain ⟨x14, h15, h⟩ := bind_some h
 refine d_h (e := [(82, .t ((ptT 5 x14.t_)))]) (ks := [82]) rfl (dg0 rfl) rfl rfl (fun S' hM hk hok => h_ld hM hk rfl rfl rfl (zHt h15) rfl (zA0 _ _) rfl (hok _ rfl rfl)) rfl ?_
 refine d_s (.i p1) rfl (dg0 rfl) rfl rfl rfl rfl ?_
 refine d_s (.t (.agg [.s p2.Key, .i p2.Version, .i p2.Len, .i p2.First])) rfl (dg0 rfl) rfl rfl rfl rfl ?_
 refine d_s (.i x9.1) rfl (dg0 rfl) rfl rfl rfl rfl ?_
 refine d_s (.t (.agg [.s p2.Key, .i p2.Version, .i p2.Len, .i p2.First, .i x9.1])) rfl (dg0 rfl) rfl rfl rfl rfl ?_
 obtain ⟨x16, h17, h⟩ := bind_some h
 refine d_h (e := [(87, .y x16)]) (ks := [87]) rfl (dg0 rfl) rfl rfl (fun S' hM hk hok => qL hM hk (σ := []) (fr := []) rfl rfl rfl (hok _ rfl rfl) rfl rfl rfl (zCB _ w0 _ h17) (zD _) rfl rfl rfl rfl (.cons (.plain .r rfl) .nil) rfl (.t (.flat rfl))) rfl ?_
 obtain ⟨x18, h19, h⟩ := bind_some h
 refine d_h (e := [(HK, .hp (hpA x18.2)), (88, .i x18.1)]) (ks := [HK, 88]) rfl (dg0 rfl) rfl rfl (fun S' hM hk hok => zBS hM hk (σ := []) (fr := []) rfl rfl rfl (hok _ rfl rfl) rfl rfl rfl (zB4 _ _ _ w0 _ h19) (zD _) (zD _) rfl rfl rfl rfl (.cons (yJ rfl) (.cons (.plain .r rfl) (.cons (.plain .r rfl) .nil))) rfl (.t (.flat rfl))) rfl ?_
 refine d_s (.i x18.1) rfl (dg0 rfl) rfl rfl rfl rfl ?_
 refine zAd (by kernel_rfl) ?_
 refine c_sr ?_
 refine o_m2 (.i x18.1) (.b (x18.1 != 0)) rfl ?_
 refine zB ?_
 rcases zF h with ⟨h20, h⟩ | ⟨h20, h⟩
 ·
  refine c_t h20 rfl ?_
  refine c_sr ?_
  refine o_m2 (.i x18.1) (.i x18.1) rfl ?_
  refine zB (zJ ?_)
  obtain rfl := Option.some.inj h
  exact ⟨⟨_, rfl, .r⟩, trivial, rfl⟩
 refine c_f h20 rfl ?_
 refine zK (c_sr ?_)
 refine o_of (e := [(92, .t (.hpt (cd 7 i13) 0))]) (g0 rfl) (h_mv mR (.inl rfl) ((zM rfl).trans (yA h12)) rfl rfl) rfl ?_
 refine o_of (e := [(93, .t (.hpt (cd 7 i13) 0))]) (g0 rfl) (h_mv mR (.inl rfl) ((zM rfl).trans (yA h12)) rfl rfl) rfl ?_
 refine o_1 (.i x5.1) rfl ?_
 obtain ⟨x21, h22, h⟩ := bind_some h
 refine o_of (e := [(95, .t (.agg [.i x21.home_, .i x21.off_]))]) (g0 rfl) (qL mR rfl (σ := []) (fr := []) rfl rfl rfl rfl rfl rfl rfl (zBD _ _ x18.2 _ h22) (zD _) rfl rfl rfl rfl (.cons (.hpt _ _) (.cons (.plain .r rfl) .nil)) rfl (.t (.flat rfl))) rfl ?_
 refine o_1 (.i p1) rfl ?_
 obtain ⟨x23, h24, h⟩ := bind_some h
 refine o_of (e := [(HK, .hp (hpA x23.2)), (97, .i x23.1)]) (g0 rfl) (zBS mR rfl (σ := []) (fr := []) rfl rfl rfl rfl rfl rfl rfl (zDA _ _ _ x18.2 _ h24) (zD _) (zD _) rfl rfl rfl rfl (.cons (.hpt _ _) (.cons (.plain .r rfl) (.cons (.plain .r rfl) .nil))) rfl (.t (.flat rfl))) rfl ?_
 refine o_1 (.i x23.1) rfl ?_
 refine zB (zJ ?_)
 obtain rfl := Option.some.inj h
 exact ⟨⟨_, rfl, .r⟩, trivial, rfl⟩
theorem zDV (p0 : (Option Nat)) (p1 : zA) (w0 : Hp) (r : (Int × Hp)) (h : yP p0 p1 w0 = some r) : FCH Try.prog 47 [.t ((ptT 7 p0)), .t (.agg [.lit (.string ⟨⟨p1.Key⟩⟩), .lit (.int .i64 p1.Version), .lit (.int .i64 p1.Len), .lit (.int .i64 p1.First)])] [] [] (hpA w0) (hpA r.2) (.t (.d (.lit (.int .i64 r.1)))) := by
 refine qY (rs := [.tmp 4]) (n := 35) [] Try.func47 rfl rfl (Nat.le_of_ble_eq_true rfl) rfl (pins := []) rfl (L := [(HK, .hp (hpA w0)), (0, .t ((ptT 7 p0))), (1, .t (.agg [.s p1.Key, .i p1.Version, .i p1.Len, .i p1.First]))]) rfl ?_
 refine c_sr ?_
 refine o_m2 (.box [.s p1.Key, .i p1.Version, .i p1.Len, .i p1.First]) (.i 0) rfl ?_
 refine zB (zL (c_sr ?_))
 refine o_1 (.t (.agg [.s p1.Key, .i p1.Version, .i p1.Len, .i p1.First])) rfl ?_
 obtain ⟨x1, h2, h⟩ := bind_some h
 refine o_ca (zEb _ _ h2) (g0 rfl) rfl rfl rfl rfl rfl rfl rfl (.cons .r .nil) rfl rfl ?_
 refine o_1 (.b (!x1)) rfl ?_
 refine zB ?_
 rcases zF h with ⟨h3, h⟩ | ⟨h3, h⟩
 ·
  refine c_t h3 rfl ?_
  refine c_sr ?_
  refine o_1 (.i 2) rfl ?_
  refine zB (zJ ?_)
  obtain rfl := Option.some.inj h
  exact ⟨⟨_, rfl, .r⟩, trivial, rfl⟩
 refine c_f h3 rfl ?_
 refine zK (c_sr ?_)
 refine o_of (e := [(13, .t ((ptT 7 p0)))]) (g0 rfl) (h_mv mR (.inl rfl) (zM rfl) rfl rfl) rfl ?_
 refine o_m2 (.ref 3 0) (.s p1.Key) rfl ?_
 obtain ⟨x4, h5, h⟩ := bind_some h
 refine o_of (e := [(16, .tup [.agg [.i x4.1.home_, .i x4.1.off_], .i x4.2.1, .agg [.s x4.2.2.1.Entry.Key, .i x4.2.2.1.Entry.Version, .i x4.2.2.1.Entry.Len, .i x4.2.2.1.Entry.First, .i x4.2.2.1.next_], .i x4.2.2.2])]) (g0 rfl) (qL mR rfl (σ := []) (fr := []) rfl rfl rfl rfl rfl rfl rfl (zBE _ _ w0 _ h5) (zD _) rfl rfl rfl rfl (.cons (yJ rfl) (.cons (.plain .r rfl) .nil)) rfl (.tup (.cons (.flat rfl) (.cons (.flat rfl) (.cons (.flat rfl) (.cons (.flat rfl) .nil)))))) rfl ?_
 refine o_m7 (.tup [.agg [.i x4.1.home_, .i x4.1.off_], .i x4.2.1, .agg [.s x4.2.2.1.Entry.Key, .i x4.2.2.1.Entry.Version, .i x4.2.2.1.Entry.Len, .i x4.2.2.1.Entry.First, .i x4.2.2.1.next_], .i x4.2.2.2]) (.t (.agg [.i x4.1.home_, .i x4.1.off_])) (.i x4.2.1) (.t (.agg [.s x4.2.2.1.Entry.Key, .i x4.2.2.1.Entry.Version, .i x4.2.2.1.Entry.Len, .i x4.2.2.1.Entry.First, .i x4.2.2.1.next_])) (.i x4.2.2.2) (.box [.i 0, .i 0]) (.box [.s [], .i 0, .i 0, .i 0, .i 0]) rfl ?_
 refine o_st (.box [.i x4.1.home_, .i x4.1.off_]) (g0 rfl) rfl rfl rfl ?_
 refine o_1 (.i x4.2.1) rfl ?_
 refine o_st (.box [.s x4.2.2.1.Entry.Key, .i x4.2.2.1.Entry.Version, .i x4.2.2.1.Entry.Len, .i x4.2.2.1.Entry.First, .i x4.2.2.1.next_]) (g0 rfl) rfl rfl rfl ?_
 refine o_1 (.i x4.2.2.2) rfl ?_
 refine zB (zL (c_sr ?_))
 refine o_m2 (.i x4.2.2.2) (.b (x4.2.2.2 != 0)) rfl ?_
 refine zB ?_
 rcases zF h with ⟨h6, h⟩ | ⟨h6, h⟩
 ·
  refine c_t h6 rfl ?_
  refine c_sr ?_
  refine o_m2 (.i x4.2.2.2) (.i x4.2.2.2) rfl ?_
  refine zB (zJ ?_)
  obtain rfl := Option.some.inj h
  exact ⟨⟨_, rfl, .r⟩, trivial, rfl⟩
 refine c_f h6 rfl ?_
 refine zK (zL ?_)
 refine zAC zBM (by kernel_rfl) ?_
 rcases qQ h with ⟨h7, h⟩ | ⟨i8, h7, h⟩
 ·
  refine d_h0 [] (e := [(24, .t (.d (.lit (.pointer none))))]) (ks := [24]) rfl (dg0 rfl) rfl rfl (fun S' hM hok => h_mv hM (.inl rfl) ((zM rfl).trans (zAE h7)) rfl (hok _ rfl rfl)) rfl ?_
  exact qV h
 refine d_h0 [] (e := [(24, .t (.hpt (cd 7 i8) 0))]) (ks := [24]) rfl (dg0 rfl) rfl rfl (fun S' hM hok => h_mv hM (.inl rfl) ((zM rfl).trans (yA h7)) rfl (hok _ rfl rfl)) rfl ?_
 refine d_h0 [] (e := [(25, .t (.hpt (cd 7 i8) 0))]) (ks := [25]) rfl (dg0 rfl) rfl rfl (fun S' hM hok => h_nc hM rfl rfl rfl rfl (hok _ rfl rfl)) rfl ?_
 refine d_h0 [] (e := [(26, .t (.hpt (cd 7 i8) 0))]) (ks := [26]) rfl (dg0 rfl) rfl rfl (fun S' hM hok => h_fd hM rfl rfl rfl rfl rfl (hok _ rfl rfl)) rfl ?_
 obtain ⟨x9, h10, h⟩ := bind_some h
 refine d_h (e := [(27, .t ((ptT 5 x9.t_)))]) (ks := [27]) rfl (dg0 rfl) rfl rfl (fun S' hM hk hok => h_ld hM hk rfl rfl rfl (zHt h10) rfl (zA0 _ _) rfl (hok _ rfl rfl)) rfl ?_
 refine d_s (.i x4.2.1) rfl (dg0 rfl) rfl rfl rfl rfl ?_
 refine d_s (.t (.agg [.s p1.Key, .i p1.Version, .i p1.Len, .i p1.First])) rfl (dg0 rfl) rfl rfl rfl rfl ?_
 refine d_s (.ref 7 4) rfl (dg0 rfl) rfl rfl rfl rfl ?_
 refine d_s (.i x4.2.2.1.next_) rfl (dg0 rfl) rfl rfl rfl rfl ?_
 refine d_s (.t (.agg [.s p1.Key, .i p1.Version, .i p1.Len, .i p1.First, .i x4.2.2.1.next_])) rfl (dg0 rfl) rfl rfl rfl rfl ?_
 obtain ⟨x11, h12, h⟩ := bind_some h
 refine d_h (e := [(33, .y x11)]) (ks := [33]) rfl (dg0 rfl) rfl rfl (fun S' hM hk hok => qL hM hk (σ := []) (fr := []) rfl rfl rfl (hok _ rfl rfl) rfl rfl rfl (zCB _ w0 _ h12) (zD _) rfl rfl rfl rfl (.cons (.plain .r rfl) .nil) rfl (.t (.flat rfl))) rfl ?_
 obtain ⟨x13, h14, h⟩ := bind_some h
 refine d_h (e := [(HK, .hp (hpA x13.2)), (34, .i x13.1)]) (ks := [HK, 34]) rfl (dg0 rfl) rfl rfl (fun S' hM hk hok => zBS hM hk (σ := []) (fr := []) rfl rfl rfl (hok _ rfl rfl) rfl rfl rfl (zB4 _ _ _ w0 _ h14) (zD _) (zD _) rfl rfl rfl rfl (.cons (yJ rfl) (.cons (.plain .r rfl) (.cons (.plain .r rfl) .nil))) rfl (.t (.flat rfl))) rfl ?_
 refine d_s (.i x13.1) rfl (dg0 rfl) rfl rfl rfl rfl ?_
 refine zAd (by kernel_rfl) ?_
 refine zJ ?_
 obtain rfl := Option.some.inj h
 exact ⟨⟨_, rfl, .r⟩, trivial, rfl⟩
theorem zC8 (p0 : (Option Nat)) (p1 : (List UInt8)) (w0 : Hp) (r : (Int × Int × Hp)) (h : yM p0 p1 w0 = some r) : FCH Try.prog 49 [.t ((ptT 7 p0)), .t (.d (.lit (.string ⟨⟨p1⟩⟩)))] [] [] (hpA w0) (hpA r.2.2) (.tup [.d (.lit (.int .i64 r.1)), .d (.lit (.int .i64 r.2.1))]) := by
 refine qY (rs := [.tmp 4, .tmp 5]) (n := 31) [] Try.func49 rfl rfl (Nat.le_of_ble_eq_true rfl) rfl (pins := []) rfl (L := [(HK, .hp (hpA w0)), (0, .t ((ptT 7 p0))), (1, .s p1)]) rfl ?_
 refine c_sr ?_
 refine o_m2 (.i 0) (.i 0) rfl ?_
 refine zB (c_sr ?_)
 refine o_of (e := [(12, .t ((ptT 7 p0)))]) (g0 rfl) (h_mv mR (.inl rfl) (zM rfl) rfl rfl) rfl ?_
 refine o_1 (.s p1) rfl ?_
 obtain ⟨x1, h2, h⟩ := bind_some h
 refine o_of (e := [(14, .tup [.agg [.i x1.1.home_, .i x1.1.off_], .i x1.2.1, .agg [.s x1.2.2.1.Entry.Key, .i x1.2.2.1.Entry.Version, .i x1.2.2.1.Entry.Len, .i x1.2.2.1.Entry.First, .i x1.2.2.1.next_], .i x1.2.2.2])]) (g0 rfl) (qL mR rfl (σ := []) (fr := []) rfl rfl rfl rfl rfl rfl rfl (zBE _ _ w0 _ h2) (zD _) rfl rfl rfl rfl (.cons (yJ rfl) (.cons (.plain .r rfl) .nil)) rfl (.tup (.cons (.flat rfl) (.cons (.flat rfl) (.cons (.flat rfl) (.cons (.flat rfl) .nil)))))) rfl ?_
 refine o_m7 (.tup [.agg [.i x1.1.home_, .i x1.1.off_], .i x1.2.1, .agg [.s x1.2.2.1.Entry.Key, .i x1.2.2.1.Entry.Version, .i x1.2.2.1.Entry.Len, .i x1.2.2.1.Entry.First, .i x1.2.2.1.next_], .i x1.2.2.2]) (.t (.agg [.i x1.1.home_, .i x1.1.off_])) (.i x1.2.1) (.t (.agg [.s x1.2.2.1.Entry.Key, .i x1.2.2.1.Entry.Version, .i x1.2.2.1.Entry.Len, .i x1.2.2.1.Entry.First, .i x1.2.2.1.next_])) (.i x1.2.2.2) (.box [.i 0, .i 0]) (.box [.s [], .i 0, .i 0, .i 0, .i 0]) rfl ?_
 refine o_st (.box [.i x1.1.home_, .i x1.1.off_]) (g0 rfl) rfl rfl rfl ?_
 refine o_1 (.i x1.2.1) rfl ?_
 refine o_st (.box [.s x1.2.2.1.Entry.Key, .i x1.2.2.1.Entry.Version, .i x1.2.2.1.Entry.Len, .i x1.2.2.1.Entry.First, .i x1.2.2.1.next_]) (g0 rfl) rfl rfl rfl ?_
 refine o_1 (.i x1.2.2.2) rfl ?_
 refine zB (zL (c_sr ?_))
 refine o_m2 (.i x1.2.2.2) (.b (x1.2.2.2 != 0)) rfl ?_
 refine zB ?_
 rcases zF h with ⟨h3, h⟩ | ⟨h3, h⟩
 ·
  refine c_t h3 rfl ?_
  refine c_sr ?_
  refine o_m3 (.i x1.2.2.2) (.i 0) (.i x1.2.2.2) rfl ?_
  refine zB (zJ ?_)
  obtain rfl := Option.some.inj h
  exact ⟨⟨_, rfl, (.tup (.cons .r (.cons .r .nil)))⟩, trivial, rfl⟩
 refine c_f h3 rfl ?_
 refine zK (zL (c_sr ?_))
 refine o_of (e := [(22, .t ((ptT 7 p0)))]) (g0 rfl) (h_mv mR (.inl rfl) (zM rfl) rfl rfl) rfl ?_
 refine o_m3 (.t (.agg [.i x1.1.home_, .i x1.1.off_])) (.ref 8 4) (.i x1.2.2.1.next_) rfl ?_
 obtain ⟨x4, h5, h⟩ := bind_some h
 refine o_of (e := [(HK, .hp (hpA x4.2)), (26, .i x4.1)]) (g0 rfl) (zBS mR rfl (σ := []) (fr := []) rfl rfl rfl rfl rfl rfl rfl (zDA _ _ _ w0 _ h5) (zD _) (zD _) rfl rfl rfl rfl (.cons (yJ rfl) (.cons (.plain .r rfl) (.cons (.plain .r rfl) .nil))) rfl (.t (.flat rfl))) rfl ?_
 refine o_1 (.i x4.1) rfl ?_
 refine zB (c_sr ?_)
 refine o_m2 (.i x4.1) (.b (x4.1 != 0)) rfl ?_
 refine zB ?_
 rcases zF h with ⟨h6, h⟩ | ⟨h6, h⟩
 ·
  refine c_t h6 rfl ?_
  refine c_sr ?_
  refine o_m3 (.i x4.1) (.i 0) (.i x4.1) rfl ?_
  refine zB (zJ ?_)
  obtain rfl := Option.some.inj h
  exact ⟨⟨_, rfl, (.tup (.cons .r (.cons .r .nil)))⟩, trivial, rfl⟩
 refine c_f h6 rfl ?_
 refine zK (c_sr ?_)
 refine o_m3 (.i x1.2.1) (.i x1.2.1) (.i 0) rfl ?_
 refine zB (zJ ?_)
 obtain rfl := Option.some.inj h
 exact ⟨⟨_, rfl, (.tup (.cons .r (.cons .r .nil)))⟩, trivial, rfl⟩
end Go.Proofs.Ytjomnccladjpgaa
