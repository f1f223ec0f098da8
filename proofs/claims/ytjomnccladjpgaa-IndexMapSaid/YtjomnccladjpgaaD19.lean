/-
  Texts joined: see the remark at the head of each part.
-/
import Derived.Test.YtjomnccladjpgaaD11
import Derived.Test.YtjomnccladjpgaaD16
import Derived.Test.YtjomnccladjpgaaD18
import Derived.Test.YtjomnccladjpgaaD10
import Derived.Test.YtjomnccladjpgaaD04
set_option linter.unusedVariables false
set_option linter.unusedSimpArgs false
/-
 Walks of functions: each function does what its model tells. Printed by a program of this claim's own (gen.py) off the given translation.
-/
namespace Go.Proofs.Ytjomnccladjpgaa
open Go Go.RowKit
set_option linter.unusedVariables false
set_option maxHeartbeats 4000000
set_option maxRecDepth 20000
theorem zF5 (p0 : (List zA4)) (w0 : Hp) (r : (Bool × Hp)) (h : zDq p0 w0 = some r) : FCH Try.prog 9 [.t (.d (.seq 6 (List.map zAQ p0)))] [] [] (hpA w0) (hpA r.2) (.t (.d (.lit (.bool r.1)))) := by
 refine qY (rs := [.tmp 2]) (n := 242) [0, 1] Try.func9 rfl rfl (Nat.le_of_ble_eq_true rfl) rfl (pins := []) rfl (L := [(HK, .hp (hpA w0)), (OB + 0, .free), (OB + 1, .free), (0, .t (.d (.seq 6 (List.map zAQ p0))))]) rfl ?_
 refine c_sr ?_
 refine o_1 (.b false) rfl ?_
 refine zB ?_
 repeat (first | refine k1 ?_ | refine k4 ?_)
 refine zL (c_sr ?_)
 obtain ⟨x1, h2, h⟩ := bind_some h
 refine o_of (e := [(HK, .hp (hpA x1.2)), (31, .b x1.1)]) (g0 rfl) (zBS mR rfl (σ := []) (fr := []) rfl rfl rfl rfl rfl rfl rfl (zHi w0 _ h2) (zD _) (zD _) rfl rfl rfl rfl .nil rfl (.t (.flat rfl))) rfl ?_
 refine o_1 (.b (!x1.1)) rfl ?_
 refine zB ?_
 repeat (first | refine k1 ?_ | refine k4 ?_)
 rcases zF h with ⟨h3, h⟩ | ⟨h3, h⟩
 ·
  refine c_t h3 rfl ?_
  refine c_sr ?_
  refine o_1 (.b false) rfl ?_
  refine zB ?_
  repeat (first | refine k1 ?_ | refine k4 ?_)
  refine zJ ?_
  repeat (first | refine k3 ?_ | refine k5 ?_)
  obtain rfl := Option.some.inj h
  exact ⟨⟨_, rfl, .r⟩, trivial, rfl⟩
 refine c_f h3 rfl ?_
 refine zK ?_
 repeat (first | refine k1 ?_ | refine k4 ?_)
 refine c_sr ?_
 refine o_of (e := [(3, .t (.d (.lit (.pointer none))))]) (g0 rfl) (h_mv mR (.inr rfl) rfl rfl rfl) rfl ?_
 refine zB ?_
 repeat (first | refine k1 ?_ | refine k4 ?_)
 refine zL (c_sr ?_)
 refine o_of (e := [(34, .t (.d (.lit (.pointer none))))]) (g0 rfl) (h_mv mR (.inl rfl) rfl rfl rfl) rfl ?_
 obtain ⟨x4, h5, h⟩ := bind_some h
 refine o_of (e := [(35, .tup [.agg [.s x4.1.Key, .i x4.1.Version, .i x4.1.Len, .i x4.1.First], .i x4.2.1, .i x4.2.2])]) (g0 rfl) (qL mR rfl (σ := []) (fr := []) rfl rfl rfl rfl rfl rfl rfl (zCA _ _ x1.2 _ h5) (zD _) rfl rfl rfl rfl (.cons (.plain .r rfl) (.cons (.plain .r rfl) .nil)) rfl (.tup (.cons (.flat rfl) (.cons (.flat rfl) (.cons (.flat rfl) .nil))))) rfl ?_
 refine o_m5 (.tup [.agg [.s x4.1.Key, .i x4.1.Version, .i x4.1.Len, .i x4.1.First], .i x4.2.1, .i x4.2.2]) (.t (.agg [.s x4.1.Key, .i x4.1.Version, .i x4.1.Len, .i x4.1.First])) (.i x4.2.1) (.i x4.2.2) (.box [.s [], .i 0, .i 0, .i 0]) rfl ?_
 refine o_st (.box [.s x4.1.Key, .i x4.1.Version, .i x4.1.Len, .i x4.1.First]) (g0 rfl) rfl rfl rfl ?_
 refine o_m2 (.i x4.2.1) (.i x4.2.2) rfl ?_
 refine zB ?_
 repeat (first | refine k1 ?_ | refine k4 ?_)
 refine c_sr ?_
 refine o_m3 (.i x4.2.2) (.b (x4.2.2 != 1)) (.b (x4.2.2 != 1)) rfl ?_
 rcases zF h with ⟨h6, h⟩ | ⟨h6, h⟩
 ·
  refine zC rfl rfl rfl h6 rfl rfl ?_
  refine zC rfl rfl rfl h6 rfl rfl ?_
  refine zC rfl rfl rfl h6 rfl rfl ?_
  refine zC rfl rfl rfl h6 rfl rfl ?_
  refine o_pk (.b true) (b := true) h6 (g0 rfl) rfl rfl rfl rfl rfl ?_
  refine o_1 (.b true) rfl ?_
  refine zC rfl rfl rfl rfl rfl rfl ?_
  refine zC rfl rfl rfl rfl rfl rfl ?_
  refine zC rfl rfl rfl rfl rfl rfl ?_
  refine zC rfl rfl rfl rfl rfl rfl ?_
  refine o_pk (.b true) (b := true) rfl (g0 rfl) rfl rfl rfl rfl rfl ?_
  refine zB ?_
  repeat (first | refine k1 ?_ | refine k4 ?_)
  refine c_t rfl rfl ?_
  refine c_sr ?_
  refine o_1 (.b false) rfl ?_
  refine zB ?_
  repeat (first | refine k1 ?_ | refine k4 ?_)
  refine zJ ?_
  repeat (first | refine k3 ?_ | refine k5 ?_)
  obtain rfl := Option.some.inj h
  exact ⟨⟨_, rfl, .r⟩, trivial, rfl⟩
 refine o_of (e := [(42, .t (.d (.lit (.pointer none))))]) (gy rfl rfl rfl h6) (h_mv mR (.inl rfl) rfl rfl rfl) rfl ?_
 refine o_s (.t (.agg [.s [97], .i 0, .i 0, .i 0])) (gy rfl rfl rfl h6) rfl rfl rfl ?_
 obtain ⟨x7, h8, h⟩ := bind_some h
 refine o_of (e := [(HK, .hp (hpA x7.2)), (44, .i x7.1)]) (gy rfl rfl rfl h6) (zBS mR rfl (σ := []) (fr := []) rfl rfl rfl rfl rfl rfl rfl (zCL _ _ _ x1.2 _ h8) (zD _) (zD _) rfl rfl rfl rfl (.cons (.plain .r rfl) (.cons (.plain .r rfl) (.cons (.plain .r rfl) .nil))) rfl (.t (.flat rfl))) rfl ?_
 refine o_s (.b (x7.1 != 1)) (gy rfl rfl rfl h6) rfl rfl rfl ?_
 refine o_pk (.b (x7.1 != 1)) (b := false) h6 (g0 rfl) rfl rfl rfl rfl rfl ?_
 refine o_1 (.b (x7.1 != 1)) rfl ?_
 rcases zF h with ⟨h9, h⟩ | ⟨h9, h⟩
 ·
  refine zC rfl rfl rfl h9 rfl rfl ?_
  refine zC rfl rfl rfl h9 rfl rfl ?_
  refine zC rfl rfl rfl h9 rfl rfl ?_
  refine zC rfl rfl rfl h9 rfl rfl ?_
  refine o_pk (.b true) (b := true) h9 (g0 rfl) rfl rfl rfl rfl rfl ?_
  refine zB ?_
  repeat (first | refine k1 ?_ | refine k4 ?_)
  refine c_t rfl rfl ?_
  refine c_sr ?_
  refine o_1 (.b false) rfl ?_
  refine zB ?_
  repeat (first | refine k1 ?_ | refine k4 ?_)
  refine zJ ?_
  repeat (first | refine k3 ?_ | refine k5 ?_)
  obtain rfl := Option.some.inj h
  exact ⟨⟨_, rfl, .r⟩, trivial, rfl⟩
 refine o_of (e := [(48, .t (.d (.lit (.pointer none))))]) (gy rfl rfl rfl h9) (h_mv mR (.inl rfl) rfl rfl rfl) rfl ?_
 refine o_s (.t (.agg [.s [97], .i 0, .i 0, .i 0])) (gy rfl rfl rfl h9) rfl rfl rfl ?_
 obtain ⟨x10, h11, h⟩ := bind_some h
 refine o_of (e := [(HK, .hp (hpA x10.2)), (50, .i x10.1)]) (gy rfl rfl rfl h9) (zBS mR rfl (σ := []) (fr := []) rfl rfl rfl rfl rfl rfl rfl (zDV _ _ x7.2 _ h11) (zD _) (zD _) rfl rfl rfl rfl (.cons (.plain .r rfl) (.cons (.plain .r rfl) .nil)) rfl (.t (.flat rfl))) rfl ?_
 refine o_s (.b (x10.1 != 1)) (gy rfl rfl rfl h9) rfl rfl rfl ?_
 refine o_pk (.b (x10.1 != 1)) (b := false) h9 (g0 rfl) rfl rfl rfl rfl rfl ?_
 refine zB ?_
 repeat (first | refine k1 ?_ | refine k4 ?_)
 rcases zF h with ⟨h12, h⟩ | ⟨h12, h⟩
 ·
  refine c_t h12 rfl ?_
  refine c_sr ?_
  refine o_1 (.b false) rfl ?_
  refine zB ?_
  repeat (first | refine k1 ?_ | refine k4 ?_)
  refine zJ ?_
  repeat (first | refine k3 ?_ | refine k5 ?_)
  obtain rfl := Option.some.inj h
  exact ⟨⟨_, rfl, .r⟩, trivial, rfl⟩
 refine c_f h12 rfl ?_
 refine zK ?_
 repeat (first | refine k1 ?_ | refine k4 ?_)
 refine zL (c_sr ?_)
 refine o_of (e := [(54, .t (.d (.lit (.pointer none))))]) (g0 rfl) (h_mv mR (.inl rfl) rfl rfl rfl) rfl ?_
 obtain ⟨x13, h14, h⟩ := bind_some h
 refine o_of (e := [(HK, .hp (hpA x13.2.2)), (55, .tup [.i x13.1, .i x13.2.1])]) (g0 rfl) (zBS mR rfl (σ := []) (fr := []) rfl rfl rfl rfl rfl rfl rfl (zC8 _ _ x10.2 _ h14) (zD _) (zD _) rfl rfl rfl rfl (.cons (.plain .r rfl) (.cons (.plain .r rfl) .nil)) rfl (.tup (.cons (.flat rfl) (.cons (.flat rfl) .nil)))) rfl ?_
 refine o_m5 (.tup [.i x13.1, .i x13.2.1]) (.i x13.1) (.i x13.2.1) (.i x13.1) (.i x13.2.1) rfl ?_
 refine zB ?_
 repeat (first | refine k1 ?_ | refine k4 ?_)
 refine c_sr ?_
 refine o_m2 (.i x13.2.1) (.b (x13.2.1 != 1)) rfl ?_
 refine zB ?_
 repeat (first | refine k1 ?_ | refine k4 ?_)
 rcases zF h with ⟨h15, h⟩ | ⟨h15, h⟩
 ·
  refine c_t h15 rfl ?_
  refine c_sr ?_
  refine o_1 (.b false) rfl ?_
  refine zB ?_
  repeat (first | refine k1 ?_ | refine k4 ?_)
  refine zJ ?_
  repeat (first | refine k3 ?_ | refine k5 ?_)
  obtain rfl := Option.some.inj h
  exact ⟨⟨_, rfl, .r⟩, trivial, rfl⟩
 refine c_f h15 rfl ?_
 refine zK ?_
 repeat (first | refine k1 ?_ | refine k4 ?_)
 refine zL (c_sr ?_)
 obtain ⟨x16, h17, h⟩ := bind_some h
 refine o_of (e := [(HK, .hp (hpA x16.2)), (61, .t ((ptT 7 x16.1)))]) (g0 rfl) (zBS mR rfl (σ := []) (fr := []) rfl rfl rfl rfl rfl rfl rfl (zEp _ _ x13.2.2 _ h17) (zD _) (zD _) rfl rfl rfl rfl (.cons (.plain .r rfl) (.cons (.plain .r rfl) .nil)) rfl (.t (zFt _ _))) rfl ?_
 obtain ⟨x18, h19, h⟩ := bind_some h
 refine o_of (e := [(62, .tup [.d (.seq 4 (List.map zI x18.1)), .i x18.2])]) (g0 rfl) (qL mR rfl (σ := []) (fr := []) rfl rfl rfl rfl rfl rfl rfl (zDN _ x16.2 _ h19) (zD _) rfl rfl rfl rfl (.cons (yJ rfl) .nil) rfl (.tup (.cons (.flat rfl) (.cons (.flat rfl) .nil)))) rfl ?_
 refine o_m5 (.tup [.d (.seq 4 (List.map zI x18.1)), .i x18.2]) (.t (.d (.seq 4 (List.map zI x18.1)))) (.i x18.2) (.t (.d (.seq 4 (List.map zI x18.1)))) (.i x18.2) rfl ?_
 refine zB ?_
 repeat (first | refine k1 ?_ | refine k4 ?_)
 refine c_sr ?_
 refine o_m2 (.i x18.2) (.b (x18.2 != 1)) rfl ?_
 refine zB ?_
 repeat (first | refine k1 ?_ | refine k4 ?_)
 rcases zF h with ⟨h20, h⟩ | ⟨h20, h⟩
 ·
  refine c_t h20 rfl ?_
  refine c_sr ?_
  refine o_1 (.b false) rfl ?_
  refine zB ?_
  repeat (first | refine k1 ?_ | refine k4 ?_)
  refine zJ ?_
  repeat (first | refine k3 ?_ | refine k5 ?_)
  obtain rfl := Option.some.inj h
  exact ⟨⟨_, rfl, .r⟩, trivial, rfl⟩
 refine c_f h20 rfl ?_
 refine zK ?_
 repeat (first | refine k1 ?_ | refine k4 ?_)
 refine zL (c_sr ?_)
 refine o_1 (.t (.d (.seq 6 (List.map zAQ p0)))) rfl ?_
 obtain ⟨x21, h22, h⟩ := bind_some h
 refine o_ca (zKF _ _ h22) (g0 rfl) rfl rfl rfl rfl rfl rfl rfl (.cons .r .nil) rfl rfl ?_
 refine o_1 (.b (!x21)) rfl ?_
 refine zB ?_
 repeat (first | refine k1 ?_ | refine k4 ?_)
 rcases zF h with ⟨h23, h⟩ | ⟨h23, h⟩
 ·
  refine c_t h23 rfl ?_
  refine c_sr ?_
  refine o_1 (.b true) rfl ?_
  refine zB ?_
  repeat (first | refine k1 ?_ | refine k4 ?_)
  refine zJ ?_
  repeat (first | refine k3 ?_ | refine k5 ?_)
  obtain rfl := Option.some.inj h
  exact ⟨⟨_, rfl, .r⟩, trivial, rfl⟩
 refine c_f h23 rfl ?_
 refine zK ?_
 repeat (first | refine k1 ?_ | refine k4 ?_)
 refine c_sr ?_
 obtain ⟨x24, h25, h⟩ := bind_some h
 refine o_of (e := [(HK, .hp (hpA x24.2)), (70, .t ((ptT 5 x24.1)))]) (g0 rfl) (zBS mR rfl (σ := []) (fr := []) rfl rfl rfl rfl rfl rfl rfl (zFZ _ x16.2 _ h25) (zD _) (zD _) rfl rfl rfl rfl (.cons (.plain (.t (.d (.nil _))) rfl) .nil) rfl (.t (zFt _ _))) rfl ?_
 obtain ⟨x26, h27, h⟩ := bind_some h
 refine o_of (e := [(HK, .hp (hpA x26.2)), (71, .t ((ptT 7 x26.1)))]) (g0 rfl) (zBS mR rfl (σ := []) (fr := []) rfl rfl rfl rfl rfl rfl rfl (zEp _ _ x24.2 _ h27) (zD _) (zD _) rfl rfl rfl rfl (.cons (yJ rfl) (.cons (.plain .r rfl) .nil)) rfl (.t (zFt _ _))) rfl ?_
 refine o_of (e := [(11, .t ((ptT 7 x26.1)))]) (g0 rfl) (h_mv mR (.inr rfl) (zM rfl) rfl rfl) rfl ?_
 refine zB ?_
 repeat (first | refine k1 ?_ | refine k4 ?_)
 refine c_sr ?_
 refine o_of (e := [((OB + 0), mpT (kL kvS) (fun v : zA => T.agg (zI v)) ([] : (List ((List UInt8) × zA)))), (72, .t (.mpt 0))]) (g0 rfl) (h_mkm mR rfl rfl rfl rfl rfl rfl) rfl ?_
 refine o_1 (.t (.mpt 0)) rfl ?_
 refine zB ?_
 repeat (first | refine k1 ?_ | refine k4 ?_)
 refine c_sr ?_
 refine o_of (e := [((OB + 1), mpA kvS (fun z : Int => D.i z) ([] : (List ((List UInt8) × Int)))), (73, .t (.mpt 1))]) (g0 rfl) (h_mkm mR rfl rfl rfl rfl rfl rfl) rfl ?_
 refine o_1 (.t (.mpt 1)) rfl ?_
 refine zB ?_
 repeat (first | refine k1 ?_ | refine k4 ?_)
 refine c_sr ?_
 refine o_1 (.i 4) rfl ?_
 refine zB ?_
 repeat (first | refine k1 ?_ | refine k4 ?_)
 refine zEZ (fun (q : (List ((List UInt8) × zA)) × (List ((List UInt8) × Int)) × Hp) => [(11, .t ((ptT 7 x26.1))), (12, .t (.mpt 0)), (13, .t (.mpt 1)), ((OB + 0), mpT (kL kvS) (fun v : zA => T.agg (zI v)) q.1), ((OB + 1), mpA kvS (fun z : Int => D.i z) q.2.1), (HK, .hp (hpA q.2.2))]) (fun (q : (List ((List UInt8) × zA)) × (List ((List UInt8) × Int)) × Hp) => zB2 x26 q.1 q.2.1 q.2.2 = some r) ?_ ?_
 ·
  refine c_sr ?_
  refine o_1 (.t (.d (.seq 6 (List.map zAQ p0)))) rfl ?_
  refine o_c (g0 rfl) rfl rfl rfl (lenE _ _) trivial ?_
  refine o_1 (.i 0) rfl ?_
  refine zB ?_
  repeat (first | refine k1 ?_ | refine k4 ?_)
  refine qC ?_
  refine zC4 (fun (q : Int × Int × (List ((List UInt8) × zA)) × (List ((List UInt8) × Int)) × Hp) => [(11, .t ((ptT 7 x26.1))), (12, .t (.mpt 0)), (13, .t (.mpt 1)), (14, .i q.1), (74, .t (.d (.seq 6 (List.map zAQ p0)))), (75, .i (p0.length : Int)), (76, .i q.2.1), ((OB + 0), mpT (kL kvS) (fun v : zA => T.agg (zI v)) q.2.2.1), ((OB + 1), mpA kvS (fun z : Int => D.i z) q.2.2.2.1), (HK, .hp (hpA q.2.2.2.2))]) (fun nl3 => (fun (q : Int × Int × (List ((List UInt8) × zA)) × (List ((List UInt8) × Int)) × Hp) => qD p0 x26 nl3 q.1 q.2.1 q.2.2.1 q.2.2.2.1 q.2.2.2.2 = some r)) (p0.length + 1) (4, 0, ([] : (List ((List UInt8) × zA))), ([] : (List ((List UInt8) × Int))), x26.2) [] h rfl ⟨.inr ⟨_, rfl, zD _⟩, by (repeat (first | exact ObP.nil | refine ObP.cons (.inl rfl) ?_ | refine ObP.cons (.inr (fun _ => rfl)) ?_ | refine ObP.cons (.inr (qW (zP _ _))) ?_ | refine ObP.cons (.inr (zAJ _ _)) ?_))⟩ ⟨.r, .r, .r, .r, .r, .r, .r, .r, .r, .r, trivial⟩ rfl ?_
  rintro nl3 ⟨z49, z50, z51, z52, z53⟩ h
  cases nl3 with
  | zero => exact qV h
  | succ nl3 =>
   refine c_sr ?_
   refine o_1 (.b (decide (z50 < (p0.length : Int)))) rfl ?_
   refine zB ?_
   repeat (first | refine k1 ?_ | refine k4 ?_)
   refine zL ?_
   rcases zF h with ⟨h54, h⟩ | ⟨h54, h⟩
   ·
    refine c_t h54 rfl ?_
    refine zK ?_
    repeat (first | refine k1 ?_ | refine k4 ?_)
    refine zL (qC (c_sr ?_))
    obtain ⟨x55, h56, h⟩ := bind_some h
    refine o_c (g0 rfl) rfl rfl rfl (idxE h56) (idxC h56) ?_
    refine o_m2 (.t (.agg [.i x55.Kind, .i x55.Home, .s x55.E.Key, .i x55.E.Version, .i x55.E.Len, .i x55.E.First])) (.box [.i 0, .i 0, .s [], .i 0, .i 0, .i 0]) rfl ?_
    refine o_st (.box [.i x55.Kind, .i x55.Home, .s x55.E.Key, .i x55.E.Version, .i x55.E.Len, .i x55.E.First]) (g0 rfl) rfl rfl rfl ?_
    refine zB ?_
    repeat (first | refine k1 ?_ | refine k4 ?_)
    refine c_sr ?_
    refine o_m4 (.ref 16 2) (.ref 16 2) (.s x55.E.Key) (.s x55.E.Key) rfl ?_
    refine zB ?_
    repeat (first | refine k1 ?_ | refine k4 ?_)
    refine c_sr ?_
    refine o_m2 (.t (.mpt 1)) (.s x55.E.Key) rfl ?_
    refine o_of (e := [(86, .tup [.i ((zY z52 x55.E.Key).getD (0 : Int)), .b ((zY z52 x55.E.Key).isSome)])]) (g0 rfl) (h_mlk2T (kv := kvS) (kT := kL kvS) (vT := (fun v => T.d ((fun z : Int => D.i z) v))) (z := (0 : Int)) mR rfl rfl rfl rfl rfl (zFu (by kernel_rfl)) rfl rfl (fun _ => .lit _ rfl) rfl rfl) rfl ?_
    refine o_m5 (.tup [.i ((zY z52 x55.E.Key).getD (0 : Int)), .b ((zY z52 x55.E.Key).isSome)]) (.i ((zY z52 x55.E.Key).getD (0 : Int))) (.b ((zY z52 x55.E.Key).isSome)) (.i ((zY z52 x55.E.Key).getD (0 : Int))) (.b ((zY z52 x55.E.Key).isSome)) rfl ?_
    refine zB ?_
    repeat (first | refine k1 ?_ | refine k4 ?_)
    refine c_sr ?_
    refine o_m2 (.ref 16 0) (.i x55.Kind) rfl ?_
    refine zB ?_
    repeat (first | refine k1 ?_ | refine k4 ?_)
    refine qC (c_sr ?_)
    refine o_m2 (.b (x55.Kind == 1)) (.b (x55.Kind == 1)) rfl ?_
    refine zB ?_
    repeat (first | refine k1 ?_ | refine k4 ?_)
    rcases zF h with ⟨h57, h⟩ | ⟨h57, h⟩
    ·
     refine c_t h57 rfl ?_
     refine zL (c_sr ?_)
     refine o_m2 (.i z49) (.b (decide (z49 ≥ 20))) rfl ?_
     refine zB ?_
     repeat (first | refine k1 ?_ | refine k4 ?_)
     rcases zF h with ⟨h58, h⟩ | ⟨h58, h⟩
     ·
      refine c_t h58 rfl ?_
      refine zAs ?_
      repeat (first | refine k1 ?_ | refine k2 ?_ | refine k3 ?_ | refine k4 ?_ | refine k5 ?_ | refine k6 ?_ | refine k7 rfl ?_)
      refine zS ?_
      refine o_m2 (.i (wi (z50 + 1))) (.i (wi (z50 + 1))) rfl ?_
      refine zB ?_
      repeat (first | refine k1 ?_ | refine k4 ?_)
      exact ⟨nl3, (z49, (wi (z50 + 1)), z51, z52, z53), [], Nat.lt_succ_self nl3, h, rfl, ⟨.inr ⟨_, rfl, zD _⟩, by (repeat (first | exact ObP.nil | refine ObP.cons (.inl rfl) ?_ | refine ObP.cons (.inr (fun _ => rfl)) ?_ | refine ObP.cons (.inr (qW (zP _ _))) ?_ | refine ObP.cons (.inr (zAJ _ _)) ?_))⟩, ⟨.r, .r, .r, .r, .r, .r, .r, .r, .r, .r, trivial⟩, rfl⟩
     refine c_f h58 rfl ?_
     refine zK ?_
     repeat (first | refine k1 ?_ | refine k4 ?_)
     refine c_sr ?_
     refine o_of (e := [(95, .t ((ptT 7 x26.1)))]) (g0 rfl) (h_mv mR (.inl rfl) (zM rfl) rfl rfl) rfl ?_
     refine o_m3 (.i z49) (.ref 16 2) (.t (.agg [.s x55.E.Key, .i x55.E.Version, .i x55.E.Len, .i x55.E.First])) rfl ?_
     obtain ⟨x59, h60, h⟩ := bind_some h
     refine o_of (e := [(HK, .hp (hpA x59.2)), (99, .i x59.1)]) (g0 rfl) (zBS mR rfl (σ := []) (fr := []) rfl rfl rfl rfl rfl rfl rfl (zCL _ _ _ z53 _ h60) (zD _) (zD _) rfl rfl rfl rfl (.cons (yJ rfl) (.cons (.plain .r rfl) (.cons (.plain .r rfl) .nil))) rfl (.t (.flat rfl))) rfl ?_
     refine o_1 (.i x59.1) rfl ?_
     refine zB ?_
     repeat (first | refine k1 ?_ | refine k4 ?_)
     refine zEZ (fun (y61 : Bool) => [(11, .t ((ptT 7 x26.1))), (12, .t (.mpt 0)), (13, .t (.mpt 1)), (14, .i z49), (16, .box [.i x55.Kind, .i x55.Home, .s x55.E.Key, .i x55.E.Version, .i x55.E.Len, .i x55.E.First]), (17, .s x55.E.Key), (20, .i x59.1), (74, .t (.d (.seq 6 (List.map zAQ p0)))), (75, .i (p0.length : Int)), (76, .i z50), (106, .b ((zY z52 x55.E.Key).isSome)), (107, .b (!(zY z52 x55.E.Key).isSome)), (108, .b (!(zY z52 x55.E.Key).isSome)), (115, .b y61), ((OB + 0), mpT (kL kvS) (fun v : zA => T.agg (zI v)) z51), ((OB + 1), mpA kvS (fun z : Int => D.i z) z52), (HK, .hp (hpA x59.2))]) (fun (y61 : Bool) => zAF (qD p0 x26 nl3) x59 z49 z50 z51 x55 z52 y61 = some r) ?_ ?_
     ·
      refine c_sr ?_
      refine o_m2 (.b ((zY z52 x55.E.Key).isSome)) (.b ((zY z52 x55.E.Key).isSome)) rfl ?_
      rcases zF h with ⟨h63, h⟩ | ⟨h63, h⟩
      ·
       refine o_s (.i x59.1) (gy rfl rfl rfl h63) rfl rfl rfl ?_
       refine o_s (.b (x59.1 == 0)) (gy rfl rfl rfl h63) rfl rfl rfl ?_
       refine o_pk (.b (x59.1 == 0)) (b := true) h63 (g0 rfl) rfl rfl rfl rfl rfl ?_
       refine o_1 (.b (x59.1 == 0)) rfl ?_
       rcases zF h with ⟨h64, h⟩ | ⟨h64, h⟩
       ·
        refine zC rfl rfl rfl h64 rfl rfl ?_
        refine zC rfl rfl rfl h64 rfl rfl ?_
        refine zC rfl rfl rfl h64 rfl rfl ?_
        refine o_un rfl rfl rfl rfl rfl ?_
        refine o_un rfl rfl rfl rfl rfl ?_
        refine o_un rfl rfl rfl rfl rfl ?_
        refine o_un rfl rfl rfl rfl rfl ?_
        refine o_un rfl rfl rfl rfl rfl ?_
        refine o_un rfl rfl rfl rfl rfl ?_
        refine zC rfl rfl rfl h64 rfl rfl ?_
        refine o_pk (.b true) (b := true) h64 (g0 rfl) rfl rfl rfl rfl rfl ?_
        refine zB ?_
        repeat (first | refine k1 ?_ | refine k4 ?_)
        refine c_t rfl rfl ?_
        refine c_sr ?_
        refine o_1 (.b false) rfl ?_
        refine zB ?_
        repeat (first | refine k1 ?_ | refine k4 ?_)
        refine zJ ?_
        repeat (first | refine k3 ?_ | refine k5 ?_)
        obtain rfl := Option.some.inj h
        exact ⟨⟨_, rfl, .r⟩, trivial, rfl⟩
       refine o_s (.b ((zY z52 x55.E.Key).isSome)) (gy rfl rfl rfl h64) rfl rfl rfl ?_
       refine o_s (.b (!(zY z52 x55.E.Key).isSome)) (gy rfl rfl rfl h64) rfl rfl rfl ?_
       refine o_s (.b (!(zY z52 x55.E.Key).isSome)) (gy rfl rfl rfl h64) rfl rfl rfl ?_
       rcases zF h with ⟨h65, h⟩ | ⟨h65, h⟩
       ·
        refine o_s (.ref 16 2) (gy rfl rfl rfl h65) rfl rfl rfl ?_
        refine o_s (.t (.agg [.s x55.E.Key, .i x55.E.Version, .i x55.E.Len, .i x55.E.First])) (gy rfl rfl rfl h65) rfl rfl rfl ?_
        obtain ⟨x66, h67, h⟩ := bind_some h
        refine o_ca (zFj _ _ h67) (gy rfl rfl rfl h65) rfl rfl rfl rfl rfl rfl rfl (.cons .r .nil) rfl rfl ?_
        refine o_s (.i x59.1) (gy rfl rfl rfl h65) rfl rfl rfl ?_
        refine o_s (.b (x59.1 == 0)) (gy rfl rfl rfl h65) rfl rfl rfl ?_
        refine o_s (.b (!(x66 == (x59.1 == 0)))) (gy rfl rfl rfl h65) rfl rfl rfl ?_
        refine o_pk (.b (!(x66 == (x59.1 == 0)))) (b := true) h65 (gy rfl rfl rfl h64) rfl rfl rfl rfl rfl ?_
        refine o_pk (.b (!(x66 == (x59.1 == 0)))) (b := false) h64 (g0 rfl) rfl rfl rfl rfl rfl ?_
        refine zB ?_
        repeat (first | refine k1 ?_ | refine k4 ?_)
        rcases zF h with ⟨h68, h⟩ | ⟨h68, h⟩
        ·
         refine c_t h68 rfl ?_
         refine c_sr ?_
         refine o_1 (.b false) rfl ?_
         refine zB ?_
         repeat (first | refine k1 ?_ | refine k4 ?_)
         refine zJ ?_
         repeat (first | refine k3 ?_ | refine k5 ?_)
         obtain rfl := Option.some.inj h
         exact ⟨⟨_, rfl, .r⟩, trivial, rfl⟩
        refine c_f h68 rfl ?_
        refine zK ?_
        repeat (first | refine k1 ?_ | refine k4 ?_)
        exact ⟨(!(x66 == (x59.1 == 0))), [], h, rfl, ⟨.inr ⟨_, rfl, zD _⟩, by (repeat (first | exact ObP.nil | refine ObP.cons (.inl rfl) ?_ | refine ObP.cons (.inr (fun _ => rfl)) ?_ | refine ObP.cons (.inr (qW (zP _ _))) ?_ | refine ObP.cons (.inr (zAJ _ _)) ?_))⟩, ⟨.r, ⟨.r, ⟨.r, ⟨.r, ⟨.r, .r, .r, .r, .r, .r, .r, .r, .r, .r, .r, .r, .r, trivial⟩⟩⟩⟩⟩, rfl⟩
       refine zC rfl rfl rfl h65 rfl rfl ?_
       refine zC rfl rfl rfl h65 rfl rfl ?_
       refine zC rfl rfl rfl h65 rfl rfl ?_
       refine zC rfl rfl rfl h65 rfl rfl ?_
       refine zC rfl rfl rfl h65 rfl rfl ?_
       refine zC rfl rfl rfl h65 rfl rfl ?_
       refine o_pk (.b false) (b := false) h65 (gy rfl rfl rfl h64) rfl rfl rfl rfl rfl ?_
       refine o_pk (.b false) (b := false) h64 (g0 rfl) rfl rfl rfl rfl rfl ?_
       refine zB ?_
       repeat (first | refine k1 ?_ | refine k4 ?_)
       refine c_f rfl rfl ?_
       refine zK ?_
       repeat (first | refine k1 ?_ | refine k4 ?_)
       exact ⟨false, [], h, rfl, ⟨.inr ⟨_, rfl, zD _⟩, by (repeat (first | exact ObP.nil | refine ObP.cons (.inl rfl) ?_ | refine ObP.cons (.inr (fun _ => rfl)) ?_ | refine ObP.cons (.inr (qW (zP _ _))) ?_ | refine ObP.cons (.inr (zAJ _ _)) ?_))⟩, ⟨.r, ⟨.r, ⟨.r, ⟨.r, ⟨.r, .r, .r, .r, .r, .r, .r, .r, .r, .r, .r, .r, .r, trivial⟩⟩⟩⟩⟩, rfl⟩
      refine zC rfl rfl rfl h63 rfl rfl ?_
      refine zC rfl rfl rfl h63 rfl rfl ?_
      refine o_pk (.b false) (b := false) h63 (g0 rfl) rfl rfl rfl rfl rfl ?_
      refine o_1 (.b false) rfl ?_
      refine o_s (.b ((zY z52 x55.E.Key).isSome)) (gy rfl rfl rfl rfl) rfl rfl rfl ?_
      refine o_s (.b (!(zY z52 x55.E.Key).isSome)) (gy rfl rfl rfl rfl) rfl rfl rfl ?_
      refine o_s (.b (!(zY z52 x55.E.Key).isSome)) (gy rfl rfl rfl rfl) rfl rfl rfl ?_
      rcases zF h with ⟨h69, h⟩ | ⟨h69, h⟩
      ·
       refine o_s (.ref 16 2) (gy rfl rfl rfl h69) rfl rfl rfl ?_
       refine o_s (.t (.agg [.s x55.E.Key, .i x55.E.Version, .i x55.E.Len, .i x55.E.First])) (gy rfl rfl rfl h69) rfl rfl rfl ?_
       obtain ⟨x70, h71, h⟩ := bind_some h
       refine o_ca (zFj _ _ h71) (gy rfl rfl rfl h69) rfl rfl rfl rfl rfl rfl rfl (.cons .r .nil) rfl rfl ?_
       refine o_s (.i x59.1) (gy rfl rfl rfl h69) rfl rfl rfl ?_
       refine o_s (.b (x59.1 == 0)) (gy rfl rfl rfl h69) rfl rfl rfl ?_
       refine o_s (.b (!(x70 == (x59.1 == 0)))) (gy rfl rfl rfl h69) rfl rfl rfl ?_
       refine o_pk (.b (!(x70 == (x59.1 == 0)))) (b := true) h69 (gy rfl rfl rfl rfl) rfl rfl rfl rfl rfl ?_
       refine o_pk (.b (!(x70 == (x59.1 == 0)))) (b := false) rfl (g0 rfl) rfl rfl rfl rfl rfl ?_
       refine zB ?_
       repeat (first | refine k1 ?_ | refine k4 ?_)
       rcases zF h with ⟨h72, h⟩ | ⟨h72, h⟩
       ·
        refine c_t h72 rfl ?_
        refine c_sr ?_
        refine o_1 (.b false) rfl ?_
        refine zB ?_
        repeat (first | refine k1 ?_ | refine k4 ?_)
        refine zJ ?_
        repeat (first | refine k3 ?_ | refine k5 ?_)
        obtain rfl := Option.some.inj h
        exact ⟨⟨_, rfl, .r⟩, trivial, rfl⟩
       refine c_f h72 rfl ?_
       refine zK ?_
       repeat (first | refine k1 ?_ | refine k4 ?_)
       exact ⟨(!(x70 == (x59.1 == 0))), [], h, rfl, ⟨.inr ⟨_, rfl, zD _⟩, by (repeat (first | exact ObP.nil | refine ObP.cons (.inl rfl) ?_ | refine ObP.cons (.inr (fun _ => rfl)) ?_ | refine ObP.cons (.inr (qW (zP _ _))) ?_ | refine ObP.cons (.inr (zAJ _ _)) ?_))⟩, ⟨.r, ⟨.r, ⟨.r, ⟨.r, ⟨.r, .r, .r, .r, .r, .r, .r, .r, .r, .r, .r, .r, .r, trivial⟩⟩⟩⟩⟩, rfl⟩
      refine zC rfl rfl rfl h69 rfl rfl ?_
      refine zC rfl rfl rfl h69 rfl rfl ?_
      refine zC rfl rfl rfl h69 rfl rfl ?_
      refine zC rfl rfl rfl h69 rfl rfl ?_
      refine zC rfl rfl rfl h69 rfl rfl ?_
      refine zC rfl rfl rfl h69 rfl rfl ?_
      refine o_pk (.b false) (b := false) h69 (gy rfl rfl rfl rfl) rfl rfl rfl rfl rfl ?_
      refine o_pk (.b false) (b := false) rfl (g0 rfl) rfl rfl rfl rfl rfl ?_
      refine zB ?_
      repeat (first | refine k1 ?_ | refine k4 ?_)
      refine c_f rfl rfl ?_
      refine zK ?_
      repeat (first | refine k1 ?_ | refine k4 ?_)
      exact ⟨false, [], h, rfl, ⟨.inr ⟨_, rfl, zD _⟩, by (repeat (first | exact ObP.nil | refine ObP.cons (.inl rfl) ?_ | refine ObP.cons (.inr (fun _ => rfl)) ?_ | refine ObP.cons (.inr (qW (zP _ _))) ?_ | refine ObP.cons (.inr (zAJ _ _)) ?_))⟩, ⟨.r, ⟨.r, ⟨.r, ⟨.r, ⟨.r, .r, .r, .r, .r, .r, .r, .r, .r, .r, .r, .r, .r, trivial⟩⟩⟩⟩⟩, rfl⟩
     rintro y61 h
     refine c_sr ?_
     refine o_m2 (.i x59.1) (.b (x59.1 == 0)) rfl ?_
     refine zB ?_
     repeat (first | refine k1 ?_ | refine k4 ?_)
     rcases zF h with ⟨h62, h⟩ | ⟨h62, h⟩
     ·
      refine c_t h62 rfl ?_
      refine c_sr ?_
      refine o_m7 (.t (.mpt 0)) (.s x55.E.Key) (.t (.mpt 1)) (.s x55.E.Key) (.ref 16 2) (.t (.agg [.s x55.E.Key, .i x55.E.Version, .i x55.E.Len, .i x55.E.First])) (.i z49) rfl ?_
      refine o_of (e := [((OB + 0), mpT (kL kvS) (fun v : zA => T.agg (zI v)) (mset z51 x55.E.Key x55.E))]) (g0 rfl) (h_mupT (kv := kvS) (kT := kL kvS) (vT := (fun v : zA => T.agg (zI v))) mR rfl rfl rfl rfl rfl rfl (zFu (by kernel_rfl)) rfl rfl) rfl ?_
      refine o_of (e := [((OB + 1), mpA kvS (fun z : Int => D.i z) (mset z52 x55.E.Key z49))]) (g0 rfl) (h_mup (kv := kvS) (cv := (fun z : Int => D.i z)) mR rfl rfl rfl rfl rfl rfl (zFu (by kernel_rfl)) rfl rfl) rfl ?_
      refine zB ?_
      repeat (first | refine k1 ?_ | refine k4 ?_)
      refine zS ?_
      refine o_m3 (.i z49) (.i (wi (z49 + 1))) (.i (wi (z49 + 1))) rfl ?_
      refine zB ?_
      repeat (first | refine k1 ?_ | refine k4 ?_)
      refine zS ?_
      refine o_m2 (.i (wi (z50 + 1))) (.i (wi (z50 + 1))) rfl ?_
      refine zB ?_
      repeat (first | refine k1 ?_ | refine k4 ?_)
      exact ⟨nl3, ((wi (z49 + 1)), (wi (z50 + 1)), (mset z51 x55.E.Key x55.E), (mset z52 x55.E.Key z49), x59.2), [], Nat.lt_succ_self nl3, h, rfl, ⟨.inr ⟨_, rfl, zD _⟩, by (repeat (first | exact ObP.nil | refine ObP.cons (.inl rfl) ?_ | refine ObP.cons (.inr (fun _ => rfl)) ?_ | refine ObP.cons (.inr (qW (zP _ _))) ?_ | refine ObP.cons (.inr (zAJ _ _)) ?_))⟩, ⟨.r, .r, .r, .r, .r, .r, .r, .r, .r, .r, trivial⟩, rfl⟩
     refine c_f h62 rfl ?_
     refine zK ?_
     repeat (first | refine k1 ?_ | refine k4 ?_)
     refine zS ?_
     refine o_m2 (.i (wi (z50 + 1))) (.i (wi (z50 + 1))) rfl ?_
     refine zB ?_
     repeat (first | refine k1 ?_ | refine k4 ?_)
     exact ⟨nl3, (z49, (wi (z50 + 1)), z51, z52, x59.2), [], Nat.lt_succ_self nl3, h, rfl, ⟨.inr ⟨_, rfl, zD _⟩, by (repeat (first | exact ObP.nil | refine ObP.cons (.inl rfl) ?_ | refine ObP.cons (.inr (fun _ => rfl)) ?_ | refine ObP.cons (.inr (qW (zP _ _))) ?_ | refine ObP.cons (.inr (zAJ _ _)) ?_))⟩, ⟨.r, .r, .r, .r, .r, .r, .r, .r, .r, .r, trivial⟩, rfl⟩
    refine c_f h57 rfl ?_
    refine c_sr ?_
    refine o_m2 (.b (x55.Kind == 2)) (.b (x55.Kind == 2)) rfl ?_
    refine zB ?_
    repeat (first | refine k1 ?_ | refine k4 ?_)
    rcases zF h with ⟨h73, h⟩ | ⟨h73, h⟩
    ·
     refine c_t h73 rfl ?_
     refine c_sr ?_
     refine o_of (e := [(130, .t ((ptT 7 x26.1)))]) (g0 rfl) (h_mv mR (.inl rfl) (zM rfl) rfl rfl) rfl ?_
     refine o_m2 (.ref 16 2) (.t (.agg [.s x55.E.Key, .i x55.E.Version, .i x55.E.Len, .i x55.E.First])) rfl ?_
     obtain ⟨x74, h75, h⟩ := bind_some h
     refine o_of (e := [(HK, .hp (hpA x74.2)), (133, .i x74.1)]) (g0 rfl) (zBS mR rfl (σ := []) (fr := []) rfl rfl rfl rfl rfl rfl rfl (zDV _ _ z53 _ h75) (zD _) (zD _) rfl rfl rfl rfl (.cons (yJ rfl) (.cons (.plain .r rfl) .nil)) rfl (.t (.flat rfl))) rfl ?_
     refine o_1 (.i x74.1) rfl ?_
     refine zB ?_
     repeat (first | refine k1 ?_ | refine k4 ?_)
     refine zEZ (fun (_ : Unit) => [(11, .t ((ptT 7 x26.1))), (12, .t (.mpt 0)), (13, .t (.mpt 1)), (14, .i z49), (16, .box [.i x55.Kind, .i x55.Home, .s x55.E.Key, .i x55.E.Version, .i x55.E.Len, .i x55.E.First]), (17, .s x55.E.Key), (21, .i x74.1), (74, .t (.d (.seq 6 (List.map zAQ p0)))), (75, .i (p0.length : Int)), (76, .i z50), ((OB + 0), mpT (kL kvS) (fun v : zA => T.agg (zI v)) z51), ((OB + 1), mpA kvS (fun z : Int => D.i z) z52), (HK, .hp (hpA x74.2))]) (fun (_ : Unit) => zAm (qD p0 x26 nl3) x74 z49 z50 z51 x55 z52 = some r) ?_ ?_
     ·
      refine c_sr ?_
      refine o_m2 (.b ((zY z52 x55.E.Key).isSome)) (.b ((zY z52 x55.E.Key).isSome)) rfl ?_
      rcases zF h with ⟨h77, h⟩ | ⟨h77, h⟩
      ·
       refine o_s (.ref 16 2) (gy rfl rfl rfl h77) rfl rfl rfl ?_
       refine o_s (.t (.agg [.s x55.E.Key, .i x55.E.Version, .i x55.E.Len, .i x55.E.First])) (gy rfl rfl rfl h77) rfl rfl rfl ?_
       obtain ⟨x78, h79, h⟩ := bind_some h
       refine o_ca (zFj _ _ h79) (gy rfl rfl rfl h77) rfl rfl rfl rfl rfl rfl rfl (.cons .r .nil) rfl rfl ?_
       refine o_pk (.b x78) (b := true) h77 (g0 rfl) rfl rfl rfl rfl rfl ?_
       refine o_m3 (.i x74.1) (.b (x74.1 == 0)) (.b (!(x78 == (x74.1 == 0)))) rfl ?_
       refine zB ?_
       repeat (first | refine k1 ?_ | refine k4 ?_)
       rcases zF h with ⟨h80, h⟩ | ⟨h80, h⟩
       ·
        refine c_t h80 rfl ?_
        refine c_sr ?_
        refine o_1 (.b false) rfl ?_
        refine zB ?_
        repeat (first | refine k1 ?_ | refine k4 ?_)
        refine zJ ?_
        repeat (first | refine k3 ?_ | refine k5 ?_)
        obtain rfl := Option.some.inj h
        exact ⟨⟨_, rfl, .r⟩, trivial, rfl⟩
       refine c_f h80 rfl ?_
       refine zK ?_
       repeat (first | refine k1 ?_ | refine k4 ?_)
       exact ⟨(), [], h, rfl, ⟨.inr ⟨_, rfl, zD _⟩, by (repeat (first | exact ObP.nil | refine ObP.cons (.inl rfl) ?_ | refine ObP.cons (.inr (fun _ => rfl)) ?_ | refine ObP.cons (.inr (qW (zP _ _))) ?_ | refine ObP.cons (.inr (zAJ _ _)) ?_))⟩, ⟨.r, .r, .r, .r, .r, .r, .r, .r, .r, .r, .r, .r, .r, trivial⟩, rfl⟩
      refine zC rfl rfl rfl h77 rfl rfl ?_
      refine zC rfl rfl rfl h77 rfl rfl ?_
      refine zC rfl rfl rfl h77 rfl rfl ?_
      refine o_pk (.b false) (b := false) h77 (g0 rfl) rfl rfl rfl rfl rfl ?_
      refine o_m3 (.i x74.1) (.b (x74.1 == 0)) (.b (!(false == (x74.1 == 0)))) rfl ?_
      refine zB ?_
      repeat (first | refine k1 ?_ | refine k4 ?_)
      rcases zF h with ⟨h81, h⟩ | ⟨h81, h⟩
      ·
       refine c_t h81 rfl ?_
       refine c_sr ?_
       refine o_1 (.b false) rfl ?_
       refine zB ?_
       repeat (first | refine k1 ?_ | refine k4 ?_)
       refine zJ ?_
       repeat (first | refine k3 ?_ | refine k5 ?_)
       obtain rfl := Option.some.inj h
       exact ⟨⟨_, rfl, .r⟩, trivial, rfl⟩
      refine c_f h81 rfl ?_
      refine zK ?_
      repeat (first | refine k1 ?_ | refine k4 ?_)
      exact ⟨(), [], h, rfl, ⟨.inr ⟨_, rfl, zD _⟩, by (repeat (first | exact ObP.nil | refine ObP.cons (.inl rfl) ?_ | refine ObP.cons (.inr (fun _ => rfl)) ?_ | refine ObP.cons (.inr (qW (zP _ _))) ?_ | refine ObP.cons (.inr (zAJ _ _)) ?_))⟩, ⟨.r, .r, .r, .r, .r, .r, .r, .r, .r, .r, .r, .r, .r, trivial⟩, rfl⟩
     rintro ⟨⟩ h
     refine c_sr ?_
     refine o_m2 (.i x74.1) (.b (x74.1 == 0)) rfl ?_
     refine zB ?_
     repeat (first | refine k1 ?_ | refine k4 ?_)
     rcases zF h with ⟨h76, h⟩ | ⟨h76, h⟩
     ·
      refine c_t h76 rfl ?_
      refine zS ?_
      refine o_m4 (.t (.mpt 0)) (.s x55.E.Key) (.ref 16 2) (.t (.agg [.s x55.E.Key, .i x55.E.Version, .i x55.E.Len, .i x55.E.First])) rfl ?_
      refine o_of (e := [((OB + 0), mpT (kL kvS) (fun v : zA => T.agg (zI v)) (mset z51 x55.E.Key x55.E))]) (g0 rfl) (h_mupT (kv := kvS) (kT := kL kvS) (vT := (fun v : zA => T.agg (zI v))) mR rfl rfl rfl rfl rfl rfl (zFu (by kernel_rfl)) rfl rfl) rfl ?_
      refine zB ?_
      repeat (first | refine k1 ?_ | refine k4 ?_)
      refine zS ?_
      refine o_m2 (.i (wi (z50 + 1))) (.i (wi (z50 + 1))) rfl ?_
      refine zB ?_
      repeat (first | refine k1 ?_ | refine k4 ?_)
      exact ⟨nl3, (z49, (wi (z50 + 1)), (mset z51 x55.E.Key x55.E), z52, x74.2), [], Nat.lt_succ_self nl3, h, rfl, ⟨.inr ⟨_, rfl, zD _⟩, by (repeat (first | exact ObP.nil | refine ObP.cons (.inl rfl) ?_ | refine ObP.cons (.inr (fun _ => rfl)) ?_ | refine ObP.cons (.inr (qW (zP _ _))) ?_ | refine ObP.cons (.inr (zAJ _ _)) ?_))⟩, ⟨.r, .r, .r, .r, .r, .r, .r, .r, .r, .r, trivial⟩, rfl⟩
     refine c_f h76 rfl ?_
     refine zK ?_
     repeat (first | refine k1 ?_ | refine k4 ?_)
     refine zS ?_
     refine o_m2 (.i (wi (z50 + 1))) (.i (wi (z50 + 1))) rfl ?_
     refine zB ?_
     repeat (first | refine k1 ?_ | refine k4 ?_)
     exact ⟨nl3, (z49, (wi (z50 + 1)), z51, z52, x74.2), [], Nat.lt_succ_self nl3, h, rfl, ⟨.inr ⟨_, rfl, zD _⟩, by (repeat (first | exact ObP.nil | refine ObP.cons (.inl rfl) ?_ | refine ObP.cons (.inr (fun _ => rfl)) ?_ | refine ObP.cons (.inr (qW (zP _ _))) ?_ | refine ObP.cons (.inr (zAJ _ _)) ?_))⟩, ⟨.r, .r, .r, .r, .r, .r, .r, .r, .r, .r, trivial⟩, rfl⟩
    refine c_f h73 rfl ?_
    refine c_sr ?_
    refine o_m2 (.b (x55.Kind == 3)) (.b (x55.Kind == 3)) rfl ?_
    refine zB ?_
    repeat (first | refine k1 ?_ | refine k4 ?_)
    rcases zF h with ⟨h82, h⟩ | ⟨h82, h⟩
    ·
     refine c_t h82 rfl ?_
     refine c_sr ?_
     refine o_of (e := [(152, .t ((ptT 7 x26.1)))]) (g0 rfl) (h_mv mR (.inl rfl) (zM rfl) rfl rfl) rfl ?_
     refine o_1 (.s x55.E.Key) rfl ?_
     obtain ⟨x83, h84, h⟩ := bind_some h
     refine o_of (e := [(HK, .hp (hpA x83.2.2)), (154, .tup [.i x83.1, .i x83.2.1])]) (g0 rfl) (zBS mR rfl (σ := []) (fr := []) rfl rfl rfl rfl rfl rfl rfl (zC8 _ _ z53 _ h84) (zD _) (zD _) rfl rfl rfl rfl (.cons (yJ rfl) (.cons (.plain .r rfl) .nil)) rfl (.tup (.cons (.flat rfl) (.cons (.flat rfl) .nil)))) rfl ?_
     refine o_m5 (.tup [.i x83.1, .i x83.2.1]) (.i x83.1) (.i x83.2.1) (.i x83.1) (.i x83.2.1) rfl ?_
     refine zB ?_
     repeat (first | refine k1 ?_ | refine k4 ?_)
     refine zEZ (fun (y85 : Bool) => [(11, .t ((ptT 7 x26.1))), (12, .t (.mpt 0)), (13, .t (.mpt 1)), (14, .i z49), (17, .s x55.E.Key), (74, .t (.d (.seq 6 (List.map zAQ p0)))), (75, .i (p0.length : Int)), (76, .i z50), (162, .b ((zY z52 x55.E.Key).isSome)), (163, .b ((zY z52 x55.E.Key).isSome)), (167, .b y85), ((OB + 0), mpT (kL kvS) (fun v : zA => T.agg (zI v)) z51), ((OB + 1), mpA kvS (fun z : Int => D.i z) z52), (HK, .hp (hpA x83.2.2))]) (fun (y85 : Bool) => zBK (qD p0 x26 nl3) z49 z50 z51 x55 z52 x83 y85 = some r) ?_ ?_
     ·
      refine c_sr ?_
      refine o_m5 (.b ((zY z52 x55.E.Key).isSome)) (.i x83.2.1) (.b (x83.2.1 == 0)) (.b (!((zY z52 x55.E.Key).isSome == (x83.2.1 == 0)))) (.b (!((zY z52 x55.E.Key).isSome == (x83.2.1 == 0)))) rfl ?_
      rcases zF h with ⟨h86, h⟩ | ⟨h86, h⟩
      ·
       refine zC rfl rfl rfl h86 rfl rfl ?_
       refine zC rfl rfl rfl h86 rfl rfl ?_
       refine o_un rfl rfl rfl rfl rfl ?_
       refine o_un rfl rfl rfl rfl rfl ?_
       refine o_un rfl rfl rfl rfl rfl ?_
       refine zC rfl rfl rfl h86 rfl rfl ?_
       refine o_pk (.b true) (b := true) h86 (g0 rfl) rfl rfl rfl rfl rfl ?_
       refine zB ?_
       repeat (first | refine k1 ?_ | refine k4 ?_)
       refine c_t rfl rfl ?_
       refine c_sr ?_
       refine o_1 (.b false) rfl ?_
       refine zB ?_
       repeat (first | refine k1 ?_ | refine k4 ?_)
       refine zJ ?_
       repeat (first | refine k3 ?_ | refine k5 ?_)
       obtain rfl := Option.some.inj h
       exact ⟨⟨_, rfl, .r⟩, trivial, rfl⟩
      refine o_s (.b ((zY z52 x55.E.Key).isSome)) (gy rfl rfl rfl h86) rfl rfl rfl ?_
      refine o_s (.b ((zY z52 x55.E.Key).isSome)) (gy rfl rfl rfl h86) rfl rfl rfl ?_
      rcases zF h with ⟨h87, h⟩ | ⟨h87, h⟩
      ·
       refine o_s (.i x83.1) (gy rfl rfl rfl h87) rfl rfl rfl ?_
       refine o_s (.i ((zY z52 x55.E.Key).getD (0 : Int))) (gy rfl rfl rfl h87) rfl rfl rfl ?_
       refine o_s (.b (x83.1 != ((zY z52 x55.E.Key).getD (0 : Int)))) (gy rfl rfl rfl h87) rfl rfl rfl ?_
       refine o_pk (.b (x83.1 != ((zY z52 x55.E.Key).getD (0 : Int)))) (b := true) h87 (gy rfl rfl rfl h86) rfl rfl rfl rfl rfl ?_
       refine o_pk (.b (x83.1 != ((zY z52 x55.E.Key).getD (0 : Int)))) (b := false) h86 (g0 rfl) rfl rfl rfl rfl rfl ?_
       refine zB ?_
       repeat (first | refine k1 ?_ | refine k4 ?_)
       rcases zF h with ⟨h88, h⟩ | ⟨h88, h⟩
       ·
        refine c_t h88 rfl ?_
        refine c_sr ?_
        refine o_1 (.b false) rfl ?_
        refine zB ?_
        repeat (first | refine k1 ?_ | refine k4 ?_)
        refine zJ ?_
        repeat (first | refine k3 ?_ | refine k5 ?_)
        obtain rfl := Option.some.inj h
        exact ⟨⟨_, rfl, .r⟩, trivial, rfl⟩
       refine c_f h88 rfl ?_
       refine zK ?_
       repeat (first | refine k1 ?_ | refine k4 ?_)
       exact ⟨(x83.1 != ((zY z52 x55.E.Key).getD (0 : Int))), [], h, rfl, ⟨.inr ⟨_, rfl, zD _⟩, by (repeat (first | exact ObP.nil | refine ObP.cons (.inl rfl) ?_ | refine ObP.cons (.inr (fun _ => rfl)) ?_ | refine ObP.cons (.inr (qW (zP _ _))) ?_ | refine ObP.cons (.inr (zAJ _ _)) ?_))⟩, ⟨.r, ⟨.r, .r, .r, .r, .r, .r, .r, .r, .r, .r, .r, .r, .r, trivial⟩⟩, rfl⟩
      refine zC rfl rfl rfl h87 rfl rfl ?_
      refine zC rfl rfl rfl h87 rfl rfl ?_
      refine zC rfl rfl rfl h87 rfl rfl ?_
      refine o_pk (.b false) (b := false) h87 (gy rfl rfl rfl h86) rfl rfl rfl rfl rfl ?_
      refine o_pk (.b false) (b := false) h86 (g0 rfl) rfl rfl rfl rfl rfl ?_
      refine zB ?_
      repeat (first | refine k1 ?_ | refine k4 ?_)
      refine c_f rfl rfl ?_
      refine zK ?_
      repeat (first | refine k1 ?_ | refine k4 ?_)
      exact ⟨false, [], h, rfl, ⟨.inr ⟨_, rfl, zD _⟩, by (repeat (first | exact ObP.nil | refine ObP.cons (.inl rfl) ?_ | refine ObP.cons (.inr (fun _ => rfl)) ?_ | refine ObP.cons (.inr (qW (zP _ _))) ?_ | refine ObP.cons (.inr (zAJ _ _)) ?_))⟩, ⟨.r, ⟨.r, .r, .r, .r, .r, .r, .r, .r, .r, .r, .r, .r, .r, trivial⟩⟩, rfl⟩
     rintro y85 h
     refine c_sr ?_
     refine o_m2 (.t (.mpt 0)) (.s x55.E.Key) rfl ?_
     refine o_of (e := [((OB + 0), mpT (kL kvS) (fun v : zA => T.agg (zI v)) (mdel z51 x55.E.Key))]) (g0 rfl) (h_mdlT (kv := kvS) (kT := kL kvS) (vT := (fun v : zA => T.agg (zI v))) mR rfl rfl rfl rfl rfl rfl (zFu (by kernel_rfl)) rfl rfl) rfl ?_
     refine zB ?_
     repeat (first | refine k1 ?_ | refine k4 ?_)
     refine zS ?_
     refine o_m2 (.t (.mpt 1)) (.s x55.E.Key) rfl ?_
     refine o_of (e := [((OB + 1), mpA kvS (fun z : Int => D.i z) (mdel z52 x55.E.Key))]) (g0 rfl) (h_mdl (kv := kvS) (cv := (fun z : Int => D.i z)) mR rfl rfl rfl rfl rfl rfl (zFu (by kernel_rfl)) rfl rfl) rfl ?_
     refine zB ?_
     repeat (first | refine k1 ?_ | refine k4 ?_)
     refine zS ?_
     refine o_m2 (.i (wi (z50 + 1))) (.i (wi (z50 + 1))) rfl ?_
     refine zB ?_
     repeat (first | refine k1 ?_ | refine k4 ?_)
     exact ⟨nl3, (z49, (wi (z50 + 1)), (mdel z51 x55.E.Key), (mdel z52 x55.E.Key), x83.2.2), [], Nat.lt_succ_self nl3, h, rfl, ⟨.inr ⟨_, rfl, zD _⟩, by (repeat (first | exact ObP.nil | refine ObP.cons (.inl rfl) ?_ | refine ObP.cons (.inr (fun _ => rfl)) ?_ | refine ObP.cons (.inr (qW (zP _ _))) ?_ | refine ObP.cons (.inr (zAJ _ _)) ?_))⟩, ⟨.r, .r, .r, .r, .r, .r, .r, .r, .r, .r, trivial⟩, rfl⟩
    refine c_f h82 rfl ?_
    refine zK ?_
    repeat (first | refine k1 ?_ | refine k4 ?_)
    refine zS ?_
    refine o_m2 (.i (wi (z50 + 1))) (.i (wi (z50 + 1))) rfl ?_
    refine zB ?_
    repeat (first | refine k1 ?_ | refine k4 ?_)
    exact ⟨nl3, (z49, (wi (z50 + 1)), z51, z52, z53), [], Nat.lt_succ_self nl3, h, rfl, ⟨.inr ⟨_, rfl, zD _⟩, by (repeat (first | exact ObP.nil | refine ObP.cons (.inl rfl) ?_ | refine ObP.cons (.inr (fun _ => rfl)) ?_ | refine ObP.cons (.inr (qW (zP _ _))) ?_ | refine ObP.cons (.inr (zAJ _ _)) ?_))⟩, ⟨.r, .r, .r, .r, .r, .r, .r, .r, .r, .r, trivial⟩, rfl⟩
   refine c_f h54 rfl ?_
   refine zAs ?_
   repeat (first | refine k1 ?_ | refine k2 ?_ | refine k3 ?_ | refine k4 ?_ | refine k5 ?_ | refine k6 ?_ | refine k7 rfl ?_)
   exact ⟨(z51, z52, z53), [], h, rfl, ⟨.inr ⟨_, rfl, zD _⟩, by (repeat (first | exact ObP.nil | refine ObP.cons (.inl rfl) ?_ | refine ObP.cons (.inr (fun _ => rfl)) ?_ | refine ObP.cons (.inr (qW (zP _ _))) ?_ | refine ObP.cons (.inr (zAJ _ _)) ?_))⟩, ⟨.r, .r, .r, .r, .r, .r, trivial⟩, rfl⟩
 rintro ⟨y28, y29, y30⟩ h
 refine c_sr ?_
 refine o_of (e := [(175, .t ((ptT 7 x26.1)))]) (g0 rfl) (h_mv mR (.inl rfl) (zM rfl) rfl rfl) rfl ?_
 obtain ⟨x31, h32, h⟩ := bind_some h
 refine o_of (e := [(176, .tup [.d (.seq 4 (List.map zI x31.1)), .i x31.2])]) (g0 rfl) (qL mR rfl (σ := []) (fr := []) rfl rfl rfl rfl rfl rfl rfl (zDN _ y30 _ h32) (zD _) rfl rfl rfl rfl (.cons (yJ rfl) .nil) rfl (.tup (.cons (.flat rfl) (.cons (.flat rfl) .nil)))) rfl ?_
 refine o_m5 (.tup [.d (.seq 4 (List.map zI x31.1)), .i x31.2]) (.t (.d (.seq 4 (List.map zI x31.1)))) (.i x31.2) (.t (.d (.seq 4 (List.map zI x31.1)))) (.i x31.2) rfl ?_
 refine zB ?_
 repeat (first | refine k1 ?_ | refine k4 ?_)
 refine zL (c_sr ?_)
 refine o_m3 (.i x31.2) (.b (x31.2 != 0)) (.b (x31.2 != 0)) rfl ?_
 rcases zF h with ⟨h33, h⟩ | ⟨h33, h⟩
 ·
  refine zC rfl rfl rfl h33 rfl rfl ?_
  refine zC rfl rfl rfl h33 rfl rfl ?_
  refine zC rfl rfl rfl h33 rfl rfl ?_
  refine zC rfl rfl rfl h33 rfl rfl ?_
  refine zC rfl rfl rfl h33 rfl rfl ?_
  refine o_pk (.b true) (b := true) h33 (g0 rfl) rfl rfl rfl rfl rfl ?_
  refine zB ?_
  repeat (first | refine k1 ?_ | refine k4 ?_)
  refine c_t rfl rfl ?_
  refine c_sr ?_
  refine o_1 (.b false) rfl ?_
  refine zB ?_
  repeat (first | refine k1 ?_ | refine k4 ?_)
  refine zJ ?_
  repeat (first | refine k3 ?_ | refine k5 ?_)
  obtain rfl := Option.some.inj h
  exact ⟨⟨_, rfl, .r⟩, trivial, rfl⟩
 refine o_s (.t (.d (.seq 4 (List.map zI x31.1)))) (gy rfl rfl rfl h33) rfl rfl rfl ?_
 refine o_c (gy rfl rfl rfl h33) rfl rfl rfl (lenE _ _) trivial ?_
 refine o_s (.t (.mpt 0)) (gy rfl rfl rfl h33) rfl rfl rfl ?_
 refine o_of (e := [(185, .i (y28.length : Int))]) (gy rfl rfl rfl h33) (h_mlnT (kT := kL kvS) (vT := (fun v : zA => T.agg (zI v))) mR rfl rfl rfl rfl rfl rfl rfl) rfl ?_
 refine o_s (.b ((x31.1.length : Int) != (y28.length : Int))) (gy rfl rfl rfl h33) rfl rfl rfl ?_
 refine o_pk (.b ((x31.1.length : Int) != (y28.length : Int))) (b := false) h33 (g0 rfl) rfl rfl rfl rfl rfl ?_
 refine zB ?_
 repeat (first | refine k1 ?_ | refine k4 ?_)
 rcases zF h with ⟨h34, h⟩ | ⟨h34, h⟩
 ·
  refine c_t h34 rfl ?_
  refine c_sr ?_
  refine o_1 (.b false) rfl ?_
  refine zB ?_
  repeat (first | refine k1 ?_ | refine k4 ?_)
  refine zJ ?_
  repeat (first | refine k3 ?_ | refine k5 ?_)
  obtain rfl := Option.some.inj h
  exact ⟨⟨_, rfl, .r⟩, trivial, rfl⟩
 refine c_f h34 rfl ?_
 refine zK ?_
 repeat (first | refine k1 ?_ | refine k4 ?_)
 refine zL (c_sr ?_)
 refine o_1 (.t (.d (.seq 4 (List.map zI x31.1)))) rfl ?_
 refine o_c (g0 rfl) rfl rfl rfl (lenE _ _) trivial ?_
 refine o_1 (.i 0) rfl ?_
 refine zB ?_
 repeat (first | refine k1 ?_ | refine k4 ?_)
 refine qC ?_
 refine zC4 (fun (z35 : Int) => [(11, .t ((ptT 7 x26.1))), (12, .t (.mpt 0)), (13, .t (.mpt 1)), (24, .t (.d (.seq 4 (List.map zI x31.1)))), (188, .t (.d (.seq 4 (List.map zI x31.1)))), (189, .i (x31.1.length : Int)), (190, .i z35), ((OB + 0), mpT (kL kvS) (fun v : zA => T.agg (zI v)) y28), ((OB + 1), mpA kvS (fun z : Int => D.i z) y29), (HK, .hp (hpA y30))]) (fun nl2 => (fun (z35 : Int) => zAn x31 x26 y30 y28 y29 nl2 z35 = some r)) (x31.1.length + 1) 0 [] h rfl ⟨.inr ⟨_, rfl, zD _⟩, by (repeat (first | exact ObP.nil | refine ObP.cons (.inl rfl) ?_ | refine ObP.cons (.inr (fun _ => rfl)) ?_ | refine ObP.cons (.inr (qW (zP _ _))) ?_ | refine ObP.cons (.inr (zAJ _ _)) ?_))⟩ ⟨.r, .r, .r, .r, .r, .r, .r, .r, .r, .r, trivial⟩ rfl ?_
 rintro nl2 z35 h
 cases nl2 with
 | zero => exact qV h
 | succ nl2 =>
  refine c_sr ?_
  refine o_1 (.b (decide (z35 < (x31.1.length : Int)))) rfl ?_
  refine zB ?_
  repeat (first | refine k1 ?_ | refine k4 ?_)
  refine zL ?_
  rcases zF h with ⟨h36, h⟩ | ⟨h36, h⟩
  ·
   refine c_t h36 rfl ?_
   refine zK ?_
   repeat (first | refine k1 ?_ | refine k4 ?_)
   refine zL (qC (c_sr ?_))
   refine o_1 (.i z35) rfl ?_
   obtain ⟨x37, h38, h⟩ := bind_some h
   refine o_c (g0 rfl) rfl rfl rfl (idxE h38) (idxC h38) ?_
   refine o_m3 (.t (.agg [.s x37.Key, .i x37.Version, .i x37.Len, .i x37.First])) (.box [.s [], .i 0, .i 0, .i 0]) (.i z35) rfl ?_
   refine o_st (.box [.s x37.Key, .i x37.Version, .i x37.Len, .i x37.First]) (g0 rfl) rfl rfl rfl ?_
   refine zB ?_
   repeat (first | refine k1 ?_ | refine k4 ?_)
   refine c_sr ?_
   refine o_of (e := [(196, .t ((ptT 7 x26.1)))]) (g0 rfl) (h_mv mR (.inl rfl) (zM rfl) rfl rfl) rfl ?_
   refine o_m2 (.ref 27 0) (.s x37.Key) rfl ?_
   obtain ⟨x39, h40, h⟩ := bind_some h
   refine o_of (e := [(199, .tup [.agg [.s x39.1.Key, .i x39.1.Version, .i x39.1.Len, .i x39.1.First], .i x39.2.1, .i x39.2.2])]) (g0 rfl) (qL mR rfl (σ := []) (fr := []) rfl rfl rfl rfl rfl rfl rfl (zCA _ _ y30 _ h40) (zD _) rfl rfl rfl rfl (.cons (yJ rfl) (.cons (.plain .r rfl) .nil)) rfl (.tup (.cons (.flat rfl) (.cons (.flat rfl) (.cons (.flat rfl) .nil))))) rfl ?_
   refine o_m5 (.tup [.agg [.s x39.1.Key, .i x39.1.Version, .i x39.1.Len, .i x39.1.First], .i x39.2.1, .i x39.2.2]) (.t (.agg [.s x39.1.Key, .i x39.1.Version, .i x39.1.Len, .i x39.1.First])) (.i x39.2.1) (.i x39.2.2) (.box [.s [], .i 0, .i 0, .i 0]) rfl ?_
   refine o_st (.box [.s x39.1.Key, .i x39.1.Version, .i x39.1.Len, .i x39.1.First]) (g0 rfl) rfl rfl rfl ?_
   refine o_m2 (.i x39.2.1) (.i x39.2.2) rfl ?_
   refine zB ?_
   repeat (first | refine k1 ?_ | refine k4 ?_)
   refine zL ?_
   refine zAC zBM (by kernel_rfl) ?_
   refine d_s (.t (.mpt 0)) rfl (dg0 rfl) rfl rfl rfl rfl ?_
   refine d_s (.ref 27 0) rfl (dg0 rfl) rfl rfl rfl rfl ?_
   refine d_s (.s x37.Key) rfl (dg0 rfl) rfl rfl rfl rfl ?_
   refine d_h0 [OB + 0] (e := [(206, .t (.agg [.s (((zY y28 x37.Key).getD (zA.mk [] 0 0 0)).Key), .i (((zY y28 x37.Key).getD (zA.mk [] 0 0 0)).Version), .i (((zY y28 x37.Key).getD (zA.mk [] 0 0 0)).Len), .i (((zY y28 x37.Key).getD (zA.mk [] 0 0 0)).First)]))]) (ks := [206]) rfl (dg0 rfl) rfl rfl (fun S' hM hok => h_mlkT (kv := kvS) (kT := kL kvS) (vT := (fun v : zA => T.agg (zI v))) hM rfl rfl rfl rfl rfl (zFu (by kernel_rfl)) rfl rfl (zE rfl rfl rfl) rfl rfl (hok _ rfl rfl)) rfl ?_
   refine d_s (.t (.agg [.s x37.Key, .i x37.Version, .i x37.Len, .i x37.First])) rfl (dg0 rfl) rfl rfl rfl rfl ?_
   refine d_eqs true (b' := ((((zY y28 x37.Key).getD (zA.mk [] 0 0 0)).Key == x37.Key) && ((((zY y28 x37.Key).getD (zA.mk [] 0 0 0)).Version == x37.Version) && ((((zY y28 x37.Key).getD (zA.mk [] 0 0 0)).Len == x37.Len) && ((((zY y28 x37.Key).getD (zA.mk [] 0 0 0)).First == x37.First) && true))))) (andE (zFW _ _) (andE rfl (andE rfl (andE rfl rfl)))) rfl (dg0 rfl) rfl rfl rfl rfl rfl (by kernel_rfl) ((!((((zY y28 x37.Key).getD (zA.mk [] 0 0 0)).Key == x37.Key) && ((((zY y28 x37.Key).getD (zA.mk [] 0 0 0)).Version == x37.Version) && ((((zY y28 x37.Key).getD (zA.mk [] 0 0 0)).Len == x37.Len) && ((((zY y28 x37.Key).getD (zA.mk [] 0 0 0)).First == x37.First) && true)))))) (by cases ((((zY y28 x37.Key).getD (zA.mk [] 0 0 0)).Key == x37.Key) && ((((zY y28 x37.Key).getD (zA.mk [] 0 0 0)).Version == x37.Version) && ((((zY y28 x37.Key).getD (zA.mk [] 0 0 0)).Len == x37.Len) && ((((zY y28 x37.Key).getD (zA.mk [] 0 0 0)).First == x37.First) && true)))) <;> rfl) ?_
   refine d_s (.b (!((((zY y28 x37.Key).getD (zA.mk [] 0 0 0)).Key == x37.Key) && ((((zY y28 x37.Key).getD (zA.mk [] 0 0 0)).Version == x37.Version) && ((((zY y28 x37.Key).getD (zA.mk [] 0 0 0)).Len == x37.Len) && ((((zY y28 x37.Key).getD (zA.mk [] 0 0 0)).First == x37.First) && true)))))) rfl (dg0 rfl) rfl rfl rfl rfl ?_
   rcases zF h with ⟨h41, h⟩ | ⟨h41, h⟩
   ·
    refine qO rfl rfl rfl rfl rfl h41 rfl rfl rfl ?_
    refine qO rfl rfl rfl rfl rfl h41 rfl rfl rfl ?_
    refine d_pk (.b true) (b := true) h41 rfl (dg0 rfl) rfl rfl rfl rfl rfl rfl ?_
    refine d_s (.b true) rfl (dg0 rfl) rfl rfl rfl rfl ?_
    refine qO rfl rfl rfl rfl rfl rfl rfl rfl rfl ?_
    refine qO rfl rfl rfl rfl rfl rfl rfl rfl rfl ?_
    refine qO rfl rfl rfl rfl rfl rfl rfl rfl rfl ?_
    refine d_pk (.b true) (b := true) rfl rfl (dg0 rfl) rfl rfl rfl rfl rfl rfl ?_
    refine d_s (.b true) rfl (dg0 rfl) rfl rfl rfl rfl ?_
    refine qO rfl rfl rfl rfl rfl rfl rfl rfl rfl ?_
    refine qO rfl rfl rfl rfl rfl rfl rfl rfl rfl ?_
    refine qO rfl rfl rfl rfl rfl rfl rfl rfl rfl ?_
    refine qO rfl rfl rfl rfl rfl rfl rfl rfl rfl ?_
    refine qO rfl rfl rfl rfl rfl rfl rfl rfl rfl ?_
    refine qO rfl rfl rfl rfl rfl rfl rfl rfl rfl ?_
    refine d_pk (.b true) (b := true) rfl rfl (dg0 rfl) rfl rfl rfl rfl rfl rfl ?_
    refine d_s (.b true) rfl (dg0 rfl) rfl rfl rfl rfl ?_
    refine qO rfl rfl rfl rfl rfl rfl rfl rfl rfl ?_
    refine qO rfl rfl rfl rfl rfl rfl rfl rfl rfl ?_
    refine qO rfl rfl rfl rfl rfl rfl rfl rfl rfl ?_
    refine d_un rfl rfl rfl rfl rfl rfl rfl rfl ?_
    refine d_un rfl rfl rfl rfl rfl rfl rfl rfl ?_
    refine d_un rfl rfl rfl rfl rfl rfl rfl rfl ?_
    refine d_un rfl rfl rfl rfl rfl rfl rfl rfl ?_
    refine d_un rfl rfl rfl rfl rfl rfl rfl rfl ?_
    refine d_un rfl rfl rfl rfl rfl rfl rfl rfl ?_
    refine d_un rfl rfl rfl rfl rfl rfl rfl rfl ?_
    refine d_un rfl rfl rfl rfl rfl rfl rfl rfl ?_
    refine d_un rfl rfl rfl rfl rfl rfl rfl rfl ?_
    refine qO rfl rfl rfl rfl rfl rfl rfl rfl rfl ?_
    refine d_pk (.b true) (b := true) rfl rfl (dg0 rfl) rfl rfl rfl rfl rfl rfl ?_
    refine zAd (by kernel_rfl) ?_
    repeat (first | refine k1 ?_ | refine k2 ?_ | refine k3 ?_ | refine k4 ?_ | refine k5 ?_ | refine k6 ?_ | refine k7 rfl ?_)
    refine c_t rfl rfl ?_
    refine c_sr ?_
    refine o_1 (.b false) rfl ?_
    refine zB ?_
    repeat (first | refine k1 ?_ | refine k4 ?_)
    refine zJ ?_
    repeat (first | refine k3 ?_ | refine k5 ?_)
    obtain rfl := Option.some.inj h
    exact ⟨⟨_, rfl, .r⟩, trivial, rfl⟩
   refine d_s (.i x39.2.2) rfl (dgy rfl rfl rfl rfl h41) rfl rfl rfl rfl ?_
   refine d_s (.b (x39.2.2 != 0)) rfl (dgy rfl rfl rfl rfl h41) rfl rfl rfl rfl ?_
   refine d_pk (.b (x39.2.2 != 0)) (b := false) h41 rfl (dg0 rfl) rfl rfl rfl rfl rfl rfl ?_
   refine d_s (.b (x39.2.2 != 0)) rfl (dg0 rfl) rfl rfl rfl rfl ?_
   rcases zF h with ⟨h42, h⟩ | ⟨h42, h⟩
   ·
    refine qO rfl rfl rfl rfl rfl h42 rfl rfl rfl ?_
    refine qO rfl rfl rfl rfl rfl h42 rfl rfl rfl ?_
    refine qO rfl rfl rfl rfl rfl h42 rfl rfl rfl ?_
    refine d_pk (.b true) (b := true) h42 rfl (dg0 rfl) rfl rfl rfl rfl rfl rfl ?_
    refine d_s (.b true) rfl (dg0 rfl) rfl rfl rfl rfl ?_
    refine qO rfl rfl rfl rfl rfl rfl rfl rfl rfl ?_
    refine qO rfl rfl rfl rfl rfl rfl rfl rfl rfl ?_
    refine qO rfl rfl rfl rfl rfl rfl rfl rfl rfl ?_
    refine qO rfl rfl rfl rfl rfl rfl rfl rfl rfl ?_
    refine qO rfl rfl rfl rfl rfl rfl rfl rfl rfl ?_
    refine qO rfl rfl rfl rfl rfl rfl rfl rfl rfl ?_
    refine d_pk (.b true) (b := true) rfl rfl (dg0 rfl) rfl rfl rfl rfl rfl rfl ?_
    refine d_s (.b true) rfl (dg0 rfl) rfl rfl rfl rfl ?_
    refine qO rfl rfl rfl rfl rfl rfl rfl rfl rfl ?_
    refine qO rfl rfl rfl rfl rfl rfl rfl rfl rfl ?_
    refine qO rfl rfl rfl rfl rfl rfl rfl rfl rfl ?_
    refine d_un rfl rfl rfl rfl rfl rfl rfl rfl ?_
    refine d_un rfl rfl rfl rfl rfl rfl rfl rfl ?_
    refine d_un rfl rfl rfl rfl rfl rfl rfl rfl ?_
    refine d_un rfl rfl rfl rfl rfl rfl rfl rfl ?_
    refine d_un rfl rfl rfl rfl rfl rfl rfl rfl ?_
    refine d_un rfl rfl rfl rfl rfl rfl rfl rfl ?_
    refine d_un rfl rfl rfl rfl rfl rfl rfl rfl ?_
    refine d_un rfl rfl rfl rfl rfl rfl rfl rfl ?_
    refine d_un rfl rfl rfl rfl rfl rfl rfl rfl ?_
    refine qO rfl rfl rfl rfl rfl rfl rfl rfl rfl ?_
    refine d_pk (.b true) (b := true) rfl rfl (dg0 rfl) rfl rfl rfl rfl rfl rfl ?_
    refine zAd (by kernel_rfl) ?_
    repeat (first | refine k1 ?_ | refine k2 ?_ | refine k3 ?_ | refine k4 ?_ | refine k5 ?_ | refine k6 ?_ | refine k7 rfl ?_)
    refine c_t rfl rfl ?_
    refine c_sr ?_
    refine o_1 (.b false) rfl ?_
    refine zB ?_
    repeat (first | refine k1 ?_ | refine k4 ?_)
    refine zJ ?_
    repeat (first | refine k3 ?_ | refine k5 ?_)
    obtain rfl := Option.some.inj h
    exact ⟨⟨_, rfl, .r⟩, trivial, rfl⟩
   refine d_s (.t (.agg [.s x39.1.Key, .i x39.1.Version, .i x39.1.Len, .i x39.1.First])) rfl (dgy rfl rfl rfl rfl h42) rfl rfl rfl rfl ?_
   refine d_s (.t (.agg [.s x37.Key, .i x37.Version, .i x37.Len, .i x37.First])) rfl (dgy rfl rfl rfl rfl h42) rfl rfl rfl rfl ?_
   refine d_eqs true (b' := ((x39.1.Key == x37.Key) && ((x39.1.Version == x37.Version) && ((x39.1.Len == x37.Len) && ((x39.1.First == x37.First) && true))))) (andE (zFW _ _) (andE rfl (andE rfl (andE rfl rfl)))) rfl (dgy rfl rfl rfl rfl h42) rfl rfl rfl rfl rfl (by kernel_rfl) ((!((x39.1.Key == x37.Key) && ((x39.1.Version == x37.Version) && ((x39.1.Len == x37.Len) && ((x39.1.First == x37.First) && true)))))) (by cases ((x39.1.Key == x37.Key) && ((x39.1.Version == x37.Version) && ((x39.1.Len == x37.Len) && ((x39.1.First == x37.First) && true)))) <;> rfl) ?_
   refine d_pk (.b (!((x39.1.Key == x37.Key) && ((x39.1.Version == x37.Version) && ((x39.1.Len == x37.Len) && ((x39.1.First == x37.First) && true)))))) (b := false) h42 rfl (dg0 rfl) rfl rfl rfl rfl rfl rfl ?_
   refine d_s (.b (!((x39.1.Key == x37.Key) && ((x39.1.Version == x37.Version) && ((x39.1.Len == x37.Len) && ((x39.1.First == x37.First) && true)))))) rfl (dg0 rfl) rfl rfl rfl rfl ?_
   rcases zF h with ⟨h43, h⟩ | ⟨h43, h⟩
   ·
    refine qO rfl rfl rfl rfl rfl h43 rfl rfl rfl ?_
    refine qO rfl rfl rfl rfl rfl h43 rfl rfl rfl ?_
    refine qO rfl rfl rfl rfl rfl h43 rfl rfl rfl ?_
    refine qO rfl rfl rfl rfl rfl h43 rfl rfl rfl ?_
    refine qO rfl rfl rfl rfl rfl h43 rfl rfl rfl ?_
    refine qO rfl rfl rfl rfl rfl h43 rfl rfl rfl ?_
    refine d_pk (.b true) (b := true) h43 rfl (dg0 rfl) rfl rfl rfl rfl rfl rfl ?_
    refine d_s (.b true) rfl (dg0 rfl) rfl rfl rfl rfl ?_
    refine qO rfl rfl rfl rfl rfl rfl rfl rfl rfl ?_
    refine qO rfl rfl rfl rfl rfl rfl rfl rfl rfl ?_
    refine qO rfl rfl rfl rfl rfl rfl rfl rfl rfl ?_
    refine d_un rfl rfl rfl rfl rfl rfl rfl rfl ?_
    refine d_un rfl rfl rfl rfl rfl rfl rfl rfl ?_
    refine d_un rfl rfl rfl rfl rfl rfl rfl rfl ?_
    refine d_un rfl rfl rfl rfl rfl rfl rfl rfl ?_
    refine d_un rfl rfl rfl rfl rfl rfl rfl rfl ?_
    refine d_un rfl rfl rfl rfl rfl rfl rfl rfl ?_
    refine d_un rfl rfl rfl rfl rfl rfl rfl rfl ?_
    refine d_un rfl rfl rfl rfl rfl rfl rfl rfl ?_
    refine d_un rfl rfl rfl rfl rfl rfl rfl rfl ?_
    refine qO rfl rfl rfl rfl rfl rfl rfl rfl rfl ?_
    refine d_pk (.b true) (b := true) rfl rfl (dg0 rfl) rfl rfl rfl rfl rfl rfl ?_
    refine zAd (by kernel_rfl) ?_
    repeat (first | refine k1 ?_ | refine k2 ?_ | refine k3 ?_ | refine k4 ?_ | refine k5 ?_ | refine k6 ?_ | refine k7 rfl ?_)
    refine c_t rfl rfl ?_
    refine c_sr ?_
    refine o_1 (.b false) rfl ?_
    refine zB ?_
    repeat (first | refine k1 ?_ | refine k4 ?_)
    refine zJ ?_
    repeat (first | refine k3 ?_ | refine k5 ?_)
    obtain rfl := Option.some.inj h
    exact ⟨⟨_, rfl, .r⟩, trivial, rfl⟩
   refine d_s (.i x39.2.1) rfl (dgy rfl rfl rfl rfl h43) rfl rfl rfl rfl ?_
   refine d_s (.t (.mpt 1)) rfl (dgy rfl rfl rfl rfl h43) rfl rfl rfl rfl ?_
   refine d_s (.ref 27 0) rfl (dgy rfl rfl rfl rfl h43) rfl rfl rfl rfl ?_
   refine d_s (.s x37.Key) rfl (dgy rfl rfl rfl rfl h43) rfl rfl rfl rfl ?_
   refine d_h0 [OB + 1] (e := [(223, .i ((zY y29 x37.Key).getD (0 : Int)))]) (ks := [223]) rfl (dgy rfl rfl rfl rfl h43) rfl rfl (fun S' hM hok => h_mlk (kv := kvS) (cv := (fun z : Int => D.i z)) hM rfl rfl rfl rfl rfl (zFu (by kernel_rfl)) rfl rfl (fun _ => .lit _ rfl) rfl rfl (hok _ rfl rfl)) rfl ?_
   refine d_s (.b (x39.2.1 != ((zY y29 x37.Key).getD (0 : Int)))) rfl (dgy rfl rfl rfl rfl h43) rfl rfl rfl rfl ?_
   refine d_pk (.b (x39.2.1 != ((zY y29 x37.Key).getD (0 : Int)))) (b := false) h43 rfl (dg0 rfl) rfl rfl rfl rfl rfl rfl ?_
   refine d_s (.b (x39.2.1 != ((zY y29 x37.Key).getD (0 : Int)))) rfl (dg0 rfl) rfl rfl rfl rfl ?_
   rcases zF h with ⟨h44, h⟩ | ⟨h44, h⟩
   ·
    refine qO rfl rfl rfl rfl rfl h44 rfl rfl rfl ?_
    refine qO rfl rfl rfl rfl rfl h44 rfl rfl rfl ?_
    refine qO rfl rfl rfl rfl rfl h44 rfl rfl rfl ?_
    refine d_un rfl rfl rfl rfl rfl rfl rfl rfl ?_
    refine d_un rfl rfl rfl rfl rfl rfl rfl rfl ?_
    refine d_un rfl rfl rfl rfl rfl rfl rfl rfl ?_
    refine d_un rfl rfl rfl rfl rfl rfl rfl rfl ?_
    refine d_un rfl rfl rfl rfl rfl rfl rfl rfl ?_
    refine d_un rfl rfl rfl rfl rfl rfl rfl rfl ?_
    refine d_un rfl rfl rfl rfl rfl rfl rfl rfl ?_
    refine d_un rfl rfl rfl rfl rfl rfl rfl rfl ?_
    refine d_un rfl rfl rfl rfl rfl rfl rfl rfl ?_
    refine qO rfl rfl rfl rfl rfl h44 rfl rfl rfl ?_
    refine d_pk (.b true) (b := true) h44 rfl (dg0 rfl) rfl rfl rfl rfl rfl rfl ?_
    refine zAd (by kernel_rfl) ?_
    repeat (first | refine k1 ?_ | refine k2 ?_ | refine k3 ?_ | refine k4 ?_ | refine k5 ?_ | refine k6 ?_ | refine k7 rfl ?_)
    refine c_t rfl rfl ?_
    refine c_sr ?_
    refine o_1 (.b false) rfl ?_
    refine zB ?_
    repeat (first | refine k1 ?_ | refine k4 ?_)
    refine zJ ?_
    repeat (first | refine k3 ?_ | refine k5 ?_)
    obtain rfl := Option.some.inj h
    exact ⟨⟨_, rfl, .r⟩, trivial, rfl⟩
   refine d_s (.i z35) rfl (dgy rfl rfl rfl rfl h44) rfl rfl rfl rfl ?_
   refine d_s (.b (decide (z35 > 0))) rfl (dgy rfl rfl rfl rfl h44) rfl rfl rfl rfl ?_
   refine d_s (.b (decide (z35 > 0))) rfl (dgy rfl rfl rfl rfl h44) rfl rfl rfl rfl ?_
   rcases zF h with ⟨h45, h⟩ | ⟨h45, h⟩
   ·
    refine d_s (.t (.d (.seq 4 (List.map zI x31.1)))) rfl (dgy rfl rfl rfl rfl h45) rfl rfl rfl rfl ?_
    refine d_s (.i z35) rfl (dgy rfl rfl rfl rfl h45) rfl rfl rfl rfl ?_
    refine d_s (.i (wi (z35 - 1))) rfl (dgy rfl rfl rfl rfl h45) rfl rfl rfl rfl ?_
    obtain ⟨x46, h47, h⟩ := bind_some h
    refine d_c rfl (dgy rfl rfl rfl rfl h45) rfl rfl rfl rfl (idxE h47) (idxC h47) ?_
    refine d_s (.imm [.s x46.Key, .i x46.Version, .i x46.Len, .i x46.First]) rfl (dgy rfl rfl rfl rfl h45) rfl rfl rfl rfl ?_
    refine d_s (.s x46.Key) rfl (dgy rfl rfl rfl rfl h45) rfl rfl rfl rfl ?_
    refine d_s (.ref 27 0) rfl (dgy rfl rfl rfl rfl h45) rfl rfl rfl rfl ?_
    refine d_s (.s x37.Key) rfl (dgy rfl rfl rfl rfl h45) rfl rfl rfl rfl ?_
    refine d_c rfl (dgy rfl rfl rfl rfl h45) rfl rfl rfl rfl (congrArg (fun z => A.b z) (s_ge _ _)) trivial ?_
    refine d_pk (.b (!(sLt x46.Key x37.Key))) (b := true) h45 rfl (dgy rfl rfl rfl rfl h44) rfl rfl rfl rfl rfl rfl ?_
    refine d_pk (.b (!(sLt x46.Key x37.Key))) (b := false) h44 rfl (dg0 rfl) rfl rfl rfl rfl rfl rfl ?_
    refine zAd (by kernel_rfl) ?_
    repeat (first | refine k1 ?_ | refine k2 ?_ | refine k3 ?_ | refine k4 ?_ | refine k5 ?_ | refine k6 ?_ | refine k7 rfl ?_)
    rcases zF h with ⟨h48, h⟩ | ⟨h48, h⟩
    ·
     refine c_t h48 rfl ?_
     refine c_sr ?_
     refine o_1 (.b false) rfl ?_
     refine zB ?_
     repeat (first | refine k1 ?_ | refine k4 ?_)
     refine zJ ?_
     repeat (first | refine k3 ?_ | refine k5 ?_)
     obtain rfl := Option.some.inj h
     exact ⟨⟨_, rfl, .r⟩, trivial, rfl⟩
    refine c_f h48 rfl ?_
    refine zK ?_
    repeat (first | refine k1 ?_ | refine k4 ?_)
    refine zS ?_
    refine o_m2 (.i (wi (z35 + 1))) (.i (wi (z35 + 1))) rfl ?_
    refine zB ?_
    repeat (first | refine k1 ?_ | refine k4 ?_)
    exact ⟨nl2, (wi (z35 + 1)), [], Nat.lt_succ_self nl2, h, rfl, ⟨.inr ⟨_, rfl, zD _⟩, by (repeat (first | exact ObP.nil | refine ObP.cons (.inl rfl) ?_ | refine ObP.cons (.inr (fun _ => rfl)) ?_ | refine ObP.cons (.inr (qW (zP _ _))) ?_ | refine ObP.cons (.inr (zAJ _ _)) ?_))⟩, ⟨.r, .r, .r, .r, .r, .r, .r, .r, .r, .r, trivial⟩, rfl⟩
   refine qO rfl rfl rfl rfl rfl h45 rfl rfl rfl ?_
   refine qO rfl rfl rfl rfl rfl h45 rfl rfl rfl ?_
   refine qO rfl rfl rfl rfl rfl h45 rfl rfl rfl ?_
   refine qO rfl rfl rfl rfl rfl h45 rfl rfl rfl ?_
   refine qO rfl rfl rfl rfl rfl h45 rfl rfl rfl ?_
   refine qO rfl rfl rfl rfl rfl h45 rfl rfl rfl ?_
   refine qO rfl rfl rfl rfl rfl h45 rfl rfl rfl ?_
   refine qO rfl rfl rfl rfl rfl h45 rfl rfl rfl ?_
   refine qO rfl rfl rfl rfl rfl h45 rfl rfl rfl ?_
   refine d_pk (.b false) (b := false) h45 rfl (dgy rfl rfl rfl rfl h44) rfl rfl rfl rfl rfl rfl ?_
   refine d_pk (.b false) (b := false) h44 rfl (dg0 rfl) rfl rfl rfl rfl rfl rfl ?_
   refine zAd (by kernel_rfl) ?_
   repeat (first | refine k1 ?_ | refine k2 ?_ | refine k3 ?_ | refine k4 ?_ | refine k5 ?_ | refine k6 ?_ | refine k7 rfl ?_)
   refine c_f rfl rfl ?_
   refine zK ?_
   repeat (first | refine k1 ?_ | refine k4 ?_)
   refine zS ?_
   refine o_m2 (.i (wi (z35 + 1))) (.i (wi (z35 + 1))) rfl ?_
   refine zB ?_
   repeat (first | refine k1 ?_ | refine k4 ?_)
   exact ⟨nl2, (wi (z35 + 1)), [], Nat.lt_succ_self nl2, h, rfl, ⟨.inr ⟨_, rfl, zD _⟩, by (repeat (first | exact ObP.nil | refine ObP.cons (.inl rfl) ?_ | refine ObP.cons (.inr (fun _ => rfl)) ?_ | refine ObP.cons (.inr (qW (zP _ _))) ?_ | refine ObP.cons (.inr (zAJ _ _)) ?_))⟩, ⟨.r, .r, .r, .r, .r, .r, .r, .r, .r, .r, trivial⟩, rfl⟩
  refine c_f h36 rfl ?_
  refine zAs ?_
  repeat (first | refine k1 ?_ | refine k2 ?_ | refine k3 ?_ | refine k4 ?_ | refine k5 ?_ | refine k6 ?_ | refine k7 rfl ?_)
  refine c_sr ?_
  refine o_1 (.b true) rfl ?_
  refine zB ?_
  repeat (first | refine k1 ?_ | refine k4 ?_)
  refine zJ ?_
  repeat (first | refine k3 ?_ | refine k5 ?_)
  obtain rfl := Option.some.inj h
  exact ⟨⟨_, rfl, .r⟩, trivial, rfl⟩
end Go.Proofs.Ytjomnccladjpgaa

/-
 Small plain laws for models: indexes, pieces, numbers of 64 bits, bytes as numbers.
-/
namespace Go.Proofs.Ytjomnccladjpgaa
open Go Go.RowKit
set_option linter.unusedVariables false
set_option linter.unusedSimpArgs false
theorem zBe {z : Int} (h1 : -9223372036854775808 ≤ z) (h2 : z ≤ 9223372036854775807) : wi z = z := wrap_id h1 h2
theorem zAI {n : Nat} (h : n < 9223372036854775807) : wi ((n : Int) + 1) = ((n + 1 : Nat) : Int) := by rw [zBe (by omega) (by omega)]; omega
theorem zAj {α : Type} {l : List α} {i : Nat} (h : i < l.length) : idx l (i : Int) = some l[i] := by
 unfold idx
 rw [show decide (0 ≤ (i : Int)) = true from by simp]
 show l[(i : Int).toNat]? = _
 rw [Int.toNat_natCast, List.getElem?_eq_getElem h]
theorem cutI_drop {α : Type} {l : List α} {n : Nat} (h : n ≤ l.length) : cutI l (n : Int) (l.length : Int) = some (l.drop n) := by
 unfold cutI
 rw [if_pos ⟨by omega, by omega, by omega⟩]
 simp
theorem zFA {α : Type} {nb : Nat} {l l' : List α} (h : (l.length + l'.length) * nb ≤ 140737488355328) : appI nb l l' = some (l ++ l') := by
 unfold appI
 rw [if_pos h]
theorem zX {α : Type} {c : Bool} {a b : α} (h : c = true) : (bif c then a else b) = a := by rw [h]; rfl
theorem zG {α : Type} {c : Bool} {a b : α} (h : c = false) : (bif c then a else b) = b := by rw [h]; rfl
theorem zAe {p : Prop} [Decidable p] (h : p) : decide p = true := decide_eq_true h
theorem yY {p : Prop} [Decidable p] (h : ¬ p) : decide p = false := decide_eq_false h
theorem ieq_t {a b : Int} (h : a = b) : (a == b) = true := by simp [h]
theorem zDn {a b : Int} (h : a ≠ b) : (a == b) = false := by simp [h]
theorem ine_t {a b : Int} (h : a ≠ b) : (a != b) = true := by simp [h]
theorem zCT {a b : Int} (h : a = b) : (a != b) = false := by simp [h]
theorem zH5 {α : Type} (a b : List α) (hl : a.length = b.length) (hb : a.length < 4611686018427387904) (eq : α → α → Option Bool) (F : Nat → Int → Option Bool)
  (hF : ∀ n z, F (n + 1) z = bif decide (z < (a.length : Int)) then (Option.bind (idx a z) fun x => Option.bind (idx b z) fun y => Option.bind (eq x y) fun e => bif (!e) then some false else F n (wi (z + 1))) else some true)
  (heq : ∀ x ∈ a, ∀ y, ∃ r, eq x y = some r ∧ (r = true ↔ x = y)) : ∀ (n i : Nat), i ≤ a.length → a.length - i < n → ∃ r, F n (i : Int) = some r ∧ (r = true ↔ a.drop i = b.drop i)
 | 0, i, _, h => by omega
 | n + 1, i, hi, h => by
  rw [hF]
  by_cases hlt : i < a.length
  ·
   have hlb : i < b.length := by omega
   have ha : a.drop i = a[i] :: a.drop (i + 1) := List.drop_eq_getElem_cons hlt
   have hb' : b.drop i = b[i] :: b.drop (i + 1) := List.drop_eq_getElem_cons hlb
   obtain ⟨e, he, hi2⟩ := heq _ (List.getElem_mem hlt) b[i]
   rw [zX (zAe (by omega)), zAj hlt, Option.bind_some, zAj hlb, Option.bind_some, he, Option.bind_some, zAI (by omega), ha, hb']
   obtain ⟨r, hr, hri⟩ := zH5 a b hl hb eq F hF heq n (i + 1) (by omega) (by omega)
   cases e with
   | false =>
    refine ⟨false, rfl, ⟨fun h => Bool.noConfusion h, fun h => ?_⟩⟩
    injection h with h _
    exact absurd (hi2.2 h) (by simp)
   | true =>
    exact ⟨r, hr, hri.trans ⟨fun h => by rw [hi2.1 rfl, h], fun h => (List.cons.inj h).2⟩⟩
  ·
   refine ⟨true, by rw [zG (yY (by omega))], ⟨fun _ => ?_, fun _ => rfl⟩⟩
   rw [List.drop_eq_nil_of_le (by omega), List.drop_eq_nil_of_le (by omega)]
def ofBE (b : List UInt8) : Nat := b.foldl (fun x c => x * 256 + c.toNat) 0
theorem zFe (b : List UInt8) (c : UInt8) : ofBE (b ++ [c]) = ofBE b * 256 + c.toNat := by simp [ofBE]
theorem zGX : ∀ (n : Nat) (b : List UInt8), b.length = n → ofBE b < 256 ^ n
 | 0, b, h => by
  rw [List.eq_nil_of_length_eq_zero h]
  decide
 | n + 1, b, h => by
  have hne : b ≠ [] := fun e => by rw [e] at h; cases h
  rw [← List.dropLast_concat_getLast hne, zFe]
  have := zGX n b.dropLast (by simp [h])
  have hc := (b.getLast hne).toNat_lt
  rw [Nat.pow_succ]
  omega
theorem zHK : ∀ (k n : Nat), ofBE (be k n) = n % 256 ^ k
 | 0, n => by simp [be, le, ofBE, Nat.mod_one]
 | k + 1, n => by
  have h : be (k + 1) n = be k (n / 256) ++ [UInt8.ofNat (n % 256)] := by
   simp only [be, le, List.reverse_cons]
  rw [h, zFe, zHK k (n / 256)]
  rw [Nat.pow_succ, Nat.mul_comm (256 ^ k) 256, Nat.mod_mul]
  have : (UInt8.ofNat (n % 256)).toNat = n % 256 := by simp
  rw [this]
  omega
theorem u64_id {z : Int} (h1 : 0 ≤ z) (h2 : z ≤ 18446744073709551615) : IntKind.u64.wrap z = z := by
 simp [IntKind.wrap, IntKind.bits, IntKind.signed]
 omega
theorem get_step (x c : Nat) (hx : x < 72057594037927936) (hc : c < 256) : IntKind.u64.wrap ((((BitVec.ofInt IntKind.u64.bits (IntKind.u64.wrap ((x : Int) * 2 ^ 8))) ||| (BitVec.ofInt IntKind.u64.bits (c : Int))).toNat : Nat) : Int) = ((x * 256 + c : Nat) : Int) := by
 have h1 : IntKind.u64.wrap ((x : Int) * 2 ^ 8) = ((x * 256 : Nat) : Int) := by rw [u64_id (by omega) (by omega)]; omega
 rw [h1]
 have h2 : (BitVec.ofInt 64 ((x * 256 : Nat) : Int) ||| BitVec.ofInt 64 (c : Int)).toNat = x * 256 + c := by
  rw [BitVec.toNat_or, BitVec.ofInt_natCast, BitVec.ofInt_natCast, BitVec.toNat_ofNat, BitVec.toNat_ofNat, Nat.mod_eq_of_lt (by omega), Nat.mod_eq_of_lt (by omega)]
  have := Nat.shiftLeft_add_eq_or_of_lt (i := 8) (b := c) (by omega) x
  rw [Nat.shiftLeft_eq] at this
  exact this.symm
 show IntKind.u64.wrap ((BitVec.ofInt 64 ((x * 256 : Nat) : Int) ||| BitVec.ofInt 64 (c : Int)).toNat : Int) = _
 rw [h2, u64_id (by omega) (by omega)]
end Go.Proofs.Ytjomnccladjpgaa
