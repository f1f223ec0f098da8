/-
  Texts joined: see the remark at the head of each part.
-/
import Derived.Test.YtjomnccladjpgaaD11
import Derived.Test.YtjomnccladjpgaaD15
import Derived.Test.YtjomnccladjpgaaD09
import Derived.Test.YtjomnccladjpgaaD12
set_option linter.unusedVariables false
set_option linter.unusedSimpArgs false
/-
 Walks of functions: each function does what its model tells. Printed by a program of this claim's own (gen.py) off the given translation.
-/
namespace Go.Proofs.Ytjomnccladjpgaa
open Go Go.RowKit
set_option linter.unusedVariables false
set_option maxHeartbeats 4000000
set_option maxRecDepth 20000
theorem zFZ (p0 : (List (List UInt8))) (w0 : Hp) (r : ((Option Nat) × Hp)) (h : zCn p0 w0 = some r) : FCH Try.prog 25 [.t (.d (.seq 1 (List.map (cSl 1 cU8) p0)))] [] [] (hpA w0) (hpA r.2) (.t ((ptT 5 r.1))) := by
 refine qY (rs := [.tmp 2]) (n := 40) [] Try.func25 rfl rfl (Nat.le_of_ble_eq_true rfl) rfl (pins := []) rfl (L := [(HK, .hp (hpA w0)), (0, .t (.d (.seq 1 (List.map (cSl 1 cU8) p0))))]) rfl ?_
 refine c_sr ?_
 refine o_of (e := [(2, .t (.d (.lit (.pointer none))))]) (g0 rfl) (h_mv mR (.inr rfl) rfl rfl rfl) rfl ?_
 refine zB (c_sr ?_)
 obtain ⟨x1, h2, h⟩ := bind_some h
 refine o_of (e := [(HK, .hp (hpA x1.2.2)), (12, .tup [(ptT 1 x1.1), .i x1.2.1])]) (g0 rfl) (zBS mR rfl (σ := []) (fr := []) rfl rfl rfl rfl rfl rfl rfl (zH6 _ w0 _ h2) (zD _) (zD _) rfl rfl rfl rfl (.cons (.plain .r rfl) .nil) rfl (.tup (.cons (zFt _ _) (.cons (.flat rfl) .nil)))) rfl ?_
 refine o_c (g0 rfl) rfl rfl rfl (congrArg A.tup (zFg (zG9 _ _) (zFg rfl cp_nil))) trivial ?_
 refine o_c (g0 rfl) rfl rfl rfl (congrArg A.t (zG9 _ _)) trivial ?_
 refine o_1 (.i x1.2.1) rfl ?_
 refine o_of (e := [(3, .t ((ptT 1 x1.1)))]) (g0 rfl) (h_mv mR (.inr rfl) (zM rfl) rfl rfl) rfl ?_
 refine o_1 (.i x1.2.1) rfl ?_
 refine zB (c_sr ?_)
 refine o_of (e := [(15, .t ((ptT 1 x1.1)))]) (g0 rfl) (h_mv mR (.inl rfl) (zM rfl) rfl rfl) rfl ?_
 obtain ⟨x3, h4, h⟩ := bind_some h
 refine o_of (e := [(HK, .hp (hpA x3.2)), (16, .i x3.1)]) (g0 rfl) (zBS mR rfl (σ := []) (fr := []) rfl rfl rfl rfl rfl rfl rfl (zGt _ _ x1.2.2 _ h4) (zD _) (zD _) rfl rfl rfl rfl (.cons (yJ rfl) (.cons (.plain .r rfl) .nil)) rfl (.t (.flat rfl))) rfl ?_
 refine zB (c_sr ?_)
 refine o_of (e := [(18, .t ((ptT 1 x1.1)))]) (g0 rfl) (h_mv mR (.inl rfl) (zM rfl) rfl rfl) rfl ?_
 obtain ⟨x5, h6, h⟩ := bind_some h
 refine o_of (e := [(HK, .hp (hpA x5.2.2)), (19, .tup [(ptT 3 x5.1), .i x5.2.1])]) (g0 rfl) (zBS mR rfl (σ := []) (fr := []) rfl rfl rfl rfl rfl rfl rfl (zIJ _ x3.2 _ h6) (zD _) (zD _) rfl rfl rfl rfl (.cons (yJ rfl) .nil) rfl (.tup (.cons (zFt _ _) (.cons (.flat rfl) .nil)))) rfl ?_
 refine o_c (g0 rfl) rfl rfl rfl (congrArg A.tup (zFg (zG9 _ _) (zFg rfl cp_nil))) trivial ?_
 refine o_c (g0 rfl) rfl rfl rfl (congrArg A.t (zG9 _ _)) trivial ?_
 refine o_1 (.i x5.2.1) rfl ?_
 refine o_of (e := [(5, .t ((ptT 3 x5.1)))]) (g0 rfl) (h_mv mR (.inr rfl) (zM rfl) rfl rfl) rfl ?_
 refine o_1 (.i x5.2.1) rfl ?_
 refine zB (c_sr ?_)
 refine o_of (e := [(23, .t ((ptT 3 x5.1)))]) (g0 rfl) (h_mv mR (.inl rfl) (zM rfl) rfl rfl) rfl ?_
 obtain ⟨x7, h8, h⟩ := bind_some h
 refine o_of (e := [(HK, .hp (hpA x7.2.2)), (24, .tup [(ptT 5 x7.1), .i x7.2.1])]) (g0 rfl) (zBS mR rfl (σ := []) (fr := []) rfl rfl rfl rfl rfl rfl rfl (zFl _ x5.2.2 _ h8) (zD _) (zD _) rfl rfl rfl rfl (.cons (yJ rfl) .nil) rfl (.tup (.cons (zFt _ _) (.cons (.flat rfl) .nil)))) rfl ?_
 refine o_c (g0 rfl) rfl rfl rfl (congrArg A.tup (zFg (zG9 _ _) (zFg rfl cp_nil))) trivial ?_
 refine o_c (g0 rfl) rfl rfl rfl (congrArg A.t (zG9 _ _)) trivial ?_
 refine o_1 (.i x7.2.1) rfl ?_
 refine o_of (e := [(7, .t ((ptT 5 x7.1)))]) (g0 rfl) (h_mv mR (.inr rfl) (zM rfl) rfl rfl) rfl ?_
 refine o_1 (.i x7.2.1) rfl ?_
 refine zB (zL (c_sr ?_))
 refine o_1 (.t (.d (.seq 1 (List.map (cSl 1 cU8) p0)))) rfl ?_
 refine o_c (g0 rfl) rfl rfl rfl (lenE _ _) trivial ?_
 refine o_1 (.i 0) rfl ?_
 refine zB (qC ?_)
 refine zC4 (fun (q : Int × Hp) => [(7, .t ((ptT 5 x7.1))), (27, .t (.d (.seq 1 (List.map (cSl 1 cU8) p0)))), (28, .i (p0.length : Int)), (29, .i q.1), (HK, .hp (hpA q.2))]) (fun nl1 => (fun (q : Int × Hp) => zCC p0 x7 nl1 q.1 q.2 = some r)) (p0.length + 1) (0, x7.2.2) [] h rfl ⟨.inr ⟨_, rfl, zD _⟩, by (repeat (first | exact ObP.nil | refine ObP.cons (.inl rfl) ?_ | refine ObP.cons (.inr (fun _ => rfl)) ?_ | refine ObP.cons (.inr (qW (zP _ _))) ?_ | refine ObP.cons (.inr (zAJ _ _)) ?_))⟩ ⟨.r, .r, .r, .r, .r, trivial⟩ rfl ?_
 rintro nl1 ⟨z9, z10⟩ h
 cases nl1 with
 | zero => exact qV h
 | succ nl1 =>
  refine c_sr ?_
  refine o_1 (.b (decide (z9 < (p0.length : Int)))) rfl ?_
  refine zB (zL ?_)
  rcases zF h with ⟨h11, h⟩ | ⟨h11, h⟩
  ·
   refine c_t h11 rfl ?_
   refine zK (zL (qC (c_sr ?_)))
   refine o_1 (.i z9) rfl ?_
   obtain ⟨x12, h13, h⟩ := bind_some h
   refine o_c (g0 rfl) rfl rfl rfl (idxE h13) (idxC h13) ?_
   refine o_m3 (.y x12) (.i z9) (.y x12) rfl ?_
   refine zB (zS ?_)
   refine o_of (e := [(34, .t ((ptT 5 x7.1)))]) (g0 rfl) (h_mv mR (.inl rfl) (zM rfl) rfl rfl) rfl ?_
   refine o_m2 (.i z9) (.y x12) rfl ?_
   obtain ⟨x14, h15, h⟩ := bind_some h
   refine o_of (e := [(HK, .hp (hpA x14.2)), (37, .i x14.1)]) (g0 rfl) (zBS mR rfl (σ := []) (fr := []) rfl rfl rfl rfl rfl rfl rfl (zB4 _ _ _ z10 _ h15) (zD _) (zD _) rfl rfl rfl rfl (.cons (yJ rfl) (.cons (.plain .r rfl) (.cons (.plain .r rfl) .nil))) rfl (.t (.flat rfl))) rfl ?_
   refine zB (zS ?_)
   refine o_m2 (.i (wi (z9 + 1))) (.i (wi (z9 + 1))) rfl ?_
   refine zB ?_
   exact ⟨nl1, ((wi (z9 + 1)), x14.2), [], Nat.lt_succ_self nl1, h, rfl, ⟨.inr ⟨_, rfl, zD _⟩, by (repeat (first | exact ObP.nil | refine ObP.cons (.inl rfl) ?_ | refine ObP.cons (.inr (fun _ => rfl)) ?_ | refine ObP.cons (.inr (qW (zP _ _))) ?_ | refine ObP.cons (.inr (zAJ _ _)) ?_))⟩, ⟨.r, .r, .r, .r, .r, trivial⟩, rfl⟩
  refine c_f h11 rfl ?_
  refine zAs (c_sr ?_)
  refine o_of (e := [(39, .t ((ptT 5 x7.1)))]) (g0 rfl) (h_mv mR (.inl rfl) (zM rfl) rfl rfl) rfl ?_
  refine o_of (e := [(2, .t ((ptT 5 x7.1)))]) (g0 rfl) (h_mv mR (.inr rfl) (zM rfl) rfl rfl) rfl ?_
  refine zB (zJ ?_)
  obtain rfl := Option.some.inj h
  exact ⟨⟨_, rfl, .r⟩, trivial, rfl⟩
theorem zHi (w0 : Hp) (r : (Bool × Hp)) (h : zDW w0 = some r) : FCH Try.prog 40 [] [] [] (hpA w0) (hpA r.2) (.t (.d (.lit (.bool r.1)))) := by
 refine qY (rs := [.tmp 0]) (n := 44) [] Try.func40 rfl rfl (Nat.le_of_ble_eq_true rfl) rfl (pins := []) rfl (L := [(HK, .hp (hpA w0))]) rfl ?_
 refine c_sr ?_
 refine o_1 (.b false) rfl ?_
 refine zB (c_sr ?_)
 obtain ⟨x1, h2, h⟩ := bind_some h
 refine o_ca (zBJ _ _ h2) (g0 rfl) rfl rfl rfl rfl rfl rfl rfl (.cons .r .nil) rfl rfl ?_
 refine o_m5 (.tup [.i x1.1, .b x1.2]) (.i x1.1) (.b x1.2) (.i x1.1) (.b x1.2) rfl ?_
 refine zB (c_sr ?_)
 obtain ⟨x3, h4, h⟩ := bind_some h
 refine o_of (e := [(HK, .hp (hpA x3.2)), (12, .t ((ptT 5 x3.1)))]) (g0 rfl) (zBS mR rfl (σ := []) (fr := []) rfl rfl rfl rfl rfl rfl rfl (zFZ _ w0 _ h4) (zD _) (zD _) rfl rfl rfl rfl (.cons (.plain (.t (.d (.nil _))) rfl) .nil) rfl (.t (zFt _ _))) rfl ?_
 refine o_of (e := [(3, .t ((ptT 5 x3.1)))]) (g0 rfl) (h_mv mR (.inr rfl) (zM rfl) rfl rfl) rfl ?_
 refine zB (c_sr ?_)
 refine o_of (e := [(13, .t ((ptT 5 x3.1)))]) (g0 rfl) (h_mv mR (.inl rfl) (zM rfl) rfl rfl) rfl ?_
 obtain ⟨x5, h6, h⟩ := bind_some h
 refine o_of (e := [(HK, .hp (hpA x5.2)), (14, .t ((ptT 7 x5.1)))]) (g0 rfl) (zBS mR rfl (σ := []) (fr := []) rfl rfl rfl rfl rfl rfl rfl (zEp _ _ x3.2 _ h6) (zD _) (zD _) rfl rfl rfl rfl (.cons (yJ rfl) (.cons (.plain .r rfl) .nil)) rfl (.t (zFt _ _))) rfl ?_
 refine o_of (e := [(4, .t ((ptT 7 x5.1)))]) (g0 rfl) (h_mv mR (.inr rfl) (zM rfl) rfl rfl) rfl ?_
 refine zB (zL (c_sr ?_))
 refine o_m3 (.b x1.2) (.b (!x1.2)) (.b (!x1.2)) rfl ?_
 rcases zF h with ⟨h7, h⟩ | ⟨h7, h⟩
 ·
  refine zC rfl rfl rfl h7 rfl rfl ?_
  refine zC rfl rfl rfl h7 rfl rfl ?_
  refine o_pk (.b true) (b := true) h7 (g0 rfl) rfl rfl rfl rfl rfl ?_
  refine o_1 (.b true) rfl ?_
  refine zC rfl rfl rfl rfl rfl rfl ?_
  refine zC rfl rfl rfl rfl rfl rfl ?_
  refine zC rfl rfl rfl rfl rfl rfl ?_
  refine zC rfl rfl rfl rfl rfl rfl ?_
  refine o_pk (.b true) (b := true) rfl (g0 rfl) rfl rfl rfl rfl rfl ?_
  refine zB ?_
  refine c_t rfl rfl ?_
  refine c_sr ?_
  refine o_1 (.b false) rfl ?_
  refine zB (zJ ?_)
  obtain rfl := Option.some.inj h
  exact ⟨⟨_, rfl, .r⟩, trivial, rfl⟩
 refine o_s (.i x1.1) (gy rfl rfl rfl h7) rfl rfl rfl ?_
 refine o_s (.b (x1.1 != 1)) (gy rfl rfl rfl h7) rfl rfl rfl ?_
 refine o_pk (.b (x1.1 != 1)) (b := false) h7 (g0 rfl) rfl rfl rfl rfl rfl ?_
 refine o_1 (.b (x1.1 != 1)) rfl ?_
 rcases zF h with ⟨h8, h⟩ | ⟨h8, h⟩
 ·
  refine zC rfl rfl rfl h8 rfl rfl ?_
  refine zC rfl rfl rfl h8 rfl rfl ?_
  refine zC rfl rfl rfl h8 rfl rfl ?_
  refine zC rfl rfl rfl h8 rfl rfl ?_
  refine o_pk (.b true) (b := true) h8 (g0 rfl) rfl rfl rfl rfl rfl ?_
  refine zB ?_
  refine c_t rfl rfl ?_
  refine c_sr ?_
  refine o_1 (.b false) rfl ?_
  refine zB (zJ ?_)
  obtain rfl := Option.some.inj h
  exact ⟨⟨_, rfl, .r⟩, trivial, rfl⟩
 refine o_of (e := [(22, .t ((ptT 7 x5.1)))]) (gy rfl rfl rfl h8) (h_mv mR (.inl rfl) (zM rfl) rfl rfl) rfl ?_
 refine o_s (.t (.agg [.s [65], .i 3, .i 0, .i 0])) (gy rfl rfl rfl h8) rfl rfl rfl ?_
 obtain ⟨x9, h10, h⟩ := bind_some h
 refine o_of (e := [(HK, .hp (hpA x9.2)), (24, .i x9.1)]) (gy rfl rfl rfl h8) (zBS mR rfl (σ := []) (fr := []) rfl rfl rfl rfl rfl rfl rfl (zCL _ _ _ x5.2 _ h10) (zD _) (zD _) rfl rfl rfl rfl (.cons (yJ rfl) (.cons (.plain .r rfl) (.cons (.plain .r rfl) .nil))) rfl (.t (.flat rfl))) rfl ?_
 refine o_s (.b (x9.1 != 0)) (gy rfl rfl rfl h8) rfl rfl rfl ?_
 refine o_pk (.b (x9.1 != 0)) (b := false) h8 (g0 rfl) rfl rfl rfl rfl rfl ?_
 refine zB ?_
 rcases zF h with ⟨h11, h⟩ | ⟨h11, h⟩
 ·
  refine c_t h11 rfl ?_
  refine c_sr ?_
  refine o_1 (.b false) rfl ?_
  refine zB (zJ ?_)
  obtain rfl := Option.some.inj h
  exact ⟨⟨_, rfl, .r⟩, trivial, rfl⟩
 refine c_f h11 rfl ?_
 refine zK (c_sr ?_)
 refine o_of (e := [(28, .t ((ptT 7 x5.1)))]) (g0 rfl) (h_mv mR (.inl rfl) (zM rfl) rfl rfl) rfl ?_
 obtain ⟨x12, h13, h⟩ := bind_some h
 refine o_of (e := [(29, .tup [.agg [.s x12.1.Key, .i x12.1.Version, .i x12.1.Len, .i x12.1.First], .i x12.2.1, .i x12.2.2])]) (g0 rfl) (qL mR rfl (σ := []) (fr := []) rfl rfl rfl rfl rfl rfl rfl (zCA _ _ x9.2 _ h13) (zD _) rfl rfl rfl rfl (.cons (yJ rfl) (.cons (.plain .r rfl) .nil)) rfl (.tup (.cons (.flat rfl) (.cons (.flat rfl) (.cons (.flat rfl) .nil))))) rfl ?_
 refine o_m5 (.tup [.agg [.s x12.1.Key, .i x12.1.Version, .i x12.1.Len, .i x12.1.First], .i x12.2.1, .i x12.2.2]) (.t (.agg [.s x12.1.Key, .i x12.1.Version, .i x12.1.Len, .i x12.1.First])) (.i x12.2.1) (.i x12.2.2) (.box [.s [], .i 0, .i 0, .i 0]) rfl ?_
 refine o_st (.box [.s x12.1.Key, .i x12.1.Version, .i x12.1.Len, .i x12.1.First]) (g0 rfl) rfl rfl rfl ?_
 refine o_m2 (.i x12.2.1) (.i x12.2.2) rfl ?_
 refine zB (c_sr ?_)
 refine o_m3 (.i x12.2.2) (.b (x12.2.2 == 0)) (.b (x12.2.2 == 0)) rfl ?_
 rcases zF h with ⟨h14, h⟩ | ⟨h14, h⟩
 ·
  refine o_s (.i x12.2.1) (gy rfl rfl rfl h14) rfl rfl rfl ?_
  refine o_s (.b (x12.2.1 == 5)) (gy rfl rfl rfl h14) rfl rfl rfl ?_
  refine o_pk (.b (x12.2.1 == 5)) (b := true) h14 (g0 rfl) rfl rfl rfl rfl rfl ?_
  refine o_1 (.b (x12.2.1 == 5)) rfl ?_
  rcases zF h with ⟨h15, h⟩ | ⟨h15, h⟩
  ·
   refine o_s (.ref 5 1) (gy rfl rfl rfl h15) rfl rfl rfl ?_
   refine o_s (.i x12.1.Version) (gy rfl rfl rfl h15) rfl rfl rfl ?_
   refine o_s (.b (x12.1.Version == 3)) (gy rfl rfl rfl h15) rfl rfl rfl ?_
   refine o_pk (.b (x12.1.Version == 3)) (b := true) h15 (g0 rfl) rfl rfl rfl rfl rfl ?_
   refine o_1 (.b (x12.1.Version == 3)) rfl ?_
   refine zB (zJ ?_)
   obtain rfl := Option.some.inj h
   exact ⟨⟨_, rfl, .r⟩, trivial, rfl⟩
  refine zC rfl rfl rfl h15 rfl rfl ?_
  refine zC rfl rfl rfl h15 rfl rfl ?_
  refine zC rfl rfl rfl h15 rfl rfl ?_
  refine o_pk (.b false) (b := false) h15 (g0 rfl) rfl rfl rfl rfl rfl ?_
  refine o_1 (.b false) rfl ?_
  refine zB (zJ ?_)
  obtain rfl := Option.some.inj h
  exact ⟨⟨_, rfl, .r⟩, trivial, rfl⟩
 refine zC rfl rfl rfl h14 rfl rfl ?_
 refine zC rfl rfl rfl h14 rfl rfl ?_
 refine o_pk (.b false) (b := false) h14 (g0 rfl) rfl rfl rfl rfl rfl ?_
 refine o_1 (.b false) rfl ?_
 refine zC rfl rfl rfl rfl rfl rfl ?_
 refine zC rfl rfl rfl rfl rfl rfl ?_
 refine zC rfl rfl rfl rfl rfl rfl ?_
 refine o_pk (.b false) (b := false) rfl (g0 rfl) rfl rfl rfl rfl rfl ?_
 refine o_1 (.b false) rfl ?_
 refine zB (zJ ?_)
 obtain rfl := Option.some.inj h
 exact ⟨⟨_, rfl, .r⟩, trivial, rfl⟩
theorem zKF (p0 : (List zA4)) (r : Bool) (h : zGa p0 = some r) : FC Try.prog 41 [.t (.d (.seq 6 (List.map zAQ p0)))] [] (.t (.d (.lit (.bool r)))) := by
 refine zDl (rs := [.tmp 2]) (n := 20) Try.func41 rfl rfl (Nat.le_of_ble_eq_true rfl) rfl (pins := []) rfl (L := [(0, .t (.d (.seq 6 (List.map zAQ p0))))]) rfl ?_
 refine c_sr ?_
 refine o_1 (.b false) rfl ?_
 refine zB ?_
 refine c_cut (fun (_ : Unit) => [(0, .t (.d (.seq 6 (List.map zAQ p0))))]) (fun (_ : Unit) => zF1 p0 = some r) ?_ ?_
 ·
  refine c_sr ?_
  refine o_1 (.t (.d (.seq 6 (List.map zAQ p0)))) rfl ?_
  refine o_c (g0 rfl) rfl rfl rfl (lenE _ _) trivial ?_
  refine o_1 (.i 0) rfl ?_
  refine zB (qC ?_)
  refine c_fuel (fun (z1 : Int) => [(0, .t (.d (.seq 6 (List.map zAQ p0)))), (5, .t (.d (.seq 6 (List.map zAQ p0)))), (6, .i (p0.length : Int)), (7, .i z1)]) (fun nl2 => (fun (z1 : Int) => zCz p0 nl2 z1 = some r)) (p0.length + 1) 0 h ⟨.r, .r, .r, .r, trivial⟩ rfl ?_
  rintro nl2 z1 h
  cases nl2 with
  | zero => exact qV h
  | succ nl2 =>
   refine c_sr ?_
   refine o_1 (.b (decide (z1 < (p0.length : Int)))) rfl ?_
   refine zB (zL ?_)
   rcases zF h with ⟨h2, h⟩ | ⟨h2, h⟩
   ·
    refine c_t h2 rfl ?_
    refine zK (zL (qC (c_sr ?_)))
    obtain ⟨x3, h4, h⟩ := bind_some h
    refine o_c (g0 rfl) rfl rfl rfl (idxE h4) (idxC h4) ?_
    refine o_m2 (.t (.agg [.i x3.Kind, .i x3.Home, .s x3.E.Key, .i x3.E.Version, .i x3.E.Len, .i x3.E.First])) (.box [.i 0, .i 0, .s [], .i 0, .i 0, .i 0]) rfl ?_
    refine o_st (.box [.i x3.Kind, .i x3.Home, .s x3.E.Key, .i x3.E.Version, .i x3.E.Len, .i x3.E.First]) (g0 rfl) rfl rfl rfl ?_
    refine zB (c_sr ?_)
    refine o_m5 (.ref 4 2) (.ref 4 2) (.s x3.E.Key) (.i (x3.E.Key.length : Int)) (.b (decide ((x3.E.Key.length : Int) > 100))) rfl ?_
    refine zB ?_
    rcases zF h with ⟨h5, h⟩ | ⟨h5, h⟩
    ·
     refine c_t h5 rfl ?_
     refine c_sr ?_
     refine o_1 (.b false) rfl ?_
     refine zB (zJ ?_)
     obtain rfl := Option.some.inj h
     exact end0 rfl .r
    refine c_f h5 rfl ?_
    refine zK (zS ?_)
    refine o_m2 (.i (wi (z1 + 1))) (.i (wi (z1 + 1))) rfl ?_
    refine zB ?_
    exact ⟨nl2, (wi (z1 + 1)), Nat.lt_succ_self nl2, h, ⟨.r, .r, .r, .r, trivial⟩, rfl⟩
   refine c_f h2 rfl ?_
   refine zAs ?_
   exact ⟨(), h, ⟨.r, trivial⟩, rfl⟩
 rintro ⟨⟩ h
 refine c_sr ?_
 refine o_1 (.t (.d (.seq 6 (List.map zAQ p0)))) rfl ?_
 refine o_c (g0 rfl) rfl rfl rfl (lenE _ _) trivial ?_
 refine o_m2 (.b (decide ((p0.length : Int) ≤ 30))) (.b (decide ((p0.length : Int) ≤ 30))) rfl ?_
 refine zB (zJ ?_)
 obtain rfl := Option.some.inj h
 exact end0 rfl .r
theorem zJh (p0 : (List UInt8)) (r : Bool) (h : zFO p0 = some r) : FC Try.prog 100 [.t (.d (.lit (.string ⟨⟨p0⟩⟩)))] [] (.t (.d (.lit (.bool r)))) := by
 refine zDl (rs := [.tmp 2]) (n := 28) Try.func100 rfl rfl (Nat.le_of_ble_eq_true rfl) rfl (pins := []) rfl (L := [(0, .s p0)]) rfl ?_
 refine c_sr ?_
 refine o_1 (.b false) rfl ?_
 refine zB (zL (c_sr ?_))
 refine o_m4 (.s p0) (.i (p0.length : Int)) (.b (decide ((p0.length : Int) < 1))) (.b (decide ((p0.length : Int) < 1))) rfl ?_
 rcases zF h with ⟨h1, h⟩ | ⟨h1, h⟩
 ·
  refine zC rfl rfl rfl h1 rfl rfl ?_
  refine zC rfl rfl rfl h1 rfl rfl ?_
  refine zC rfl rfl rfl h1 rfl rfl ?_
  refine o_pk (.b true) (b := true) h1 (g0 rfl) rfl rfl rfl rfl rfl ?_
  refine zB ?_
  refine c_t rfl rfl ?_
  refine c_sr ?_
  refine o_1 (.b false) rfl ?_
  refine zB (zJ ?_)
  obtain rfl := Option.some.inj h
  exact end0 rfl .r
 refine o_s (.s p0) (gy rfl rfl rfl h1) rfl rfl rfl ?_
 refine o_s (.i (p0.length : Int)) (gy rfl rfl rfl h1) rfl rfl rfl ?_
 refine o_s (.b (decide ((p0.length : Int) > 40))) (gy rfl rfl rfl h1) rfl rfl rfl ?_
 refine o_pk (.b (decide ((p0.length : Int) > 40))) (b := false) h1 (g0 rfl) rfl rfl rfl rfl rfl ?_
 refine zB ?_
 rcases zF h with ⟨h2, h⟩ | ⟨h2, h⟩
 ·
  refine c_t h2 rfl ?_
  refine c_sr ?_
  refine o_1 (.b false) rfl ?_
  refine zB (zJ ?_)
  obtain rfl := Option.some.inj h
  exact end0 rfl .r
 refine c_f h2 rfl ?_
 refine zK (zL (c_sr ?_))
 refine o_1 (.i 0) rfl ?_
 refine zB (qC ?_)
 refine c_fuel (fun (z3 : Int) => [(0, .s p0), (3, .i z3)]) (fun nl1 => (fun (z3 : Int) => zCN p0 nl1 z3 = some r)) (p0.length + 1) 0 h ⟨.r, .r, trivial⟩ rfl ?_
 rintro nl1 z3 h
 cases nl1 with
 | zero => exact qV h
 | succ nl1 =>
  refine zL (c_sr ?_)
  refine o_m4 (.i z3) (.s p0) (.i (p0.length : Int)) (.b (decide (z3 < (p0.length : Int)))) rfl ?_
  refine zB ?_
  rcases zF h with ⟨h4, h⟩ | ⟨h4, h⟩
  ·
   refine c_t h4 rfl ?_
   refine zK (zL (qC (c_sr ?_)))
   refine o_m2 (.s p0) (.i z3) rfl ?_
   obtain ⟨x5, h6, h⟩ := bind_some h
   refine o_c (g0 rfl) rfl rfl rfl (zGo h6) (zGi h6) ?_
   refine o_m2 (.b (decide ((x5.toNat : Int) < 33))) (.b (decide ((x5.toNat : Int) < 33))) rfl ?_
   rcases zF h with ⟨h7, h⟩ | ⟨h7, h⟩
   ·
    refine zC rfl rfl rfl h7 rfl rfl ?_
    refine zC rfl rfl rfl h7 rfl rfl ?_
    refine zC rfl rfl rfl h7 rfl rfl ?_
    refine zC rfl rfl rfl h7 rfl rfl ?_
    refine o_pk (.b true) (b := true) h7 (g0 rfl) rfl rfl rfl rfl rfl ?_
    refine zB ?_
    refine c_t rfl rfl ?_
    refine c_sr ?_
    refine o_1 (.b false) rfl ?_
    refine zB (zJ ?_)
    obtain rfl := Option.some.inj h
    exact end0 rfl .r
   refine o_s (.s p0) (gy rfl rfl rfl h7) rfl rfl rfl ?_
   refine o_s (.i z3) (gy rfl rfl rfl h7) rfl rfl rfl ?_
   obtain ⟨x8, h9, h⟩ := bind_some h
   refine o_c (gy rfl rfl rfl h7) rfl rfl rfl (zGo h9) (zGi h9) ?_
   refine o_s (.b (decide ((x8.toNat : Int) > 126))) (gy rfl rfl rfl h7) rfl rfl rfl ?_
   refine o_pk (.b (decide ((x8.toNat : Int) > 126))) (b := false) h7 (g0 rfl) rfl rfl rfl rfl rfl ?_
   refine zB ?_
   rcases zF h with ⟨h10, h⟩ | ⟨h10, h⟩
   ·
    refine c_t h10 rfl ?_
    refine c_sr ?_
    refine o_1 (.b false) rfl ?_
    refine zB (zJ ?_)
    obtain rfl := Option.some.inj h
    exact end0 rfl .r
   refine c_f h10 rfl ?_
   refine zK (zS ?_)
   refine o_m3 (.i z3) (.i (wi (z3 + 1))) (.i (wi (z3 + 1))) rfl ?_
   refine zB ?_
   exact ⟨nl1, (wi (z3 + 1)), Nat.lt_succ_self nl1, h, ⟨.r, .r, trivial⟩, rfl⟩
  refine c_f h4 rfl ?_
  refine zAs (c_sr ?_)
  refine o_1 (.b true) rfl ?_
  refine zB (zJ ?_)
  obtain rfl := Option.some.inj h
  exact end0 rfl .r
theorem zFj (p0 : zA) (r : Bool) (h : zDz p0 = some r) : FC Try.prog 54 [.t (.agg [.lit (.string ⟨⟨p0.Key⟩⟩), .lit (.int .i64 p0.Version), .lit (.int .i64 p0.Len), .lit (.int .i64 p0.First)])] [] (.t (.d (.lit (.bool r)))) := by
 refine zDl (rs := [.tmp 2]) (n := 36) Try.func54 rfl rfl (Nat.le_of_ble_eq_true rfl) rfl (pins := []) rfl (L := [(0, .t (.agg [.s p0.Key, .i p0.Version, .i p0.Len, .i p0.First]))]) rfl ?_
 refine c_sr ?_
 refine o_m2 (.box [.s p0.Key, .i p0.Version, .i p0.Len, .i p0.First]) (.b false) rfl ?_
 refine zB (c_sr ?_)
 refine o_m2 (.ref 1 0) (.s p0.Key) rfl ?_
 obtain ⟨x1, h2, h⟩ := bind_some h
 refine o_ca (zJh _ _ h2) (g0 rfl) rfl rfl rfl rfl rfl rfl rfl (.cons .r .nil) rfl rfl ?_
 refine o_1 (.b x1) rfl ?_
 rcases zF h with ⟨h3, h⟩ | ⟨h3, h⟩
 ·
  refine o_s (.ref 1 1) (gy rfl rfl rfl h3) rfl rfl rfl ?_
  refine o_s (.i p0.Version) (gy rfl rfl rfl h3) rfl rfl rfl ?_
  refine o_s (.b (decide (p0.Version ≥ 0))) (gy rfl rfl rfl h3) rfl rfl rfl ?_
  refine o_pk (.b (decide (p0.Version ≥ 0))) (b := true) h3 (g0 rfl) rfl rfl rfl rfl rfl ?_
  refine o_1 (.b (decide (p0.Version ≥ 0))) rfl ?_
  rcases zF h with ⟨h4, h⟩ | ⟨h4, h⟩
  ·
   refine o_s (.ref 1 1) (gy rfl rfl rfl h4) rfl rfl rfl ?_
   refine o_s (.i p0.Version) (gy rfl rfl rfl h4) rfl rfl rfl ?_
   refine o_s (.b (decide (p0.Version ≤ 4611686018427387904))) (gy rfl rfl rfl h4) rfl rfl rfl ?_
   refine o_pk (.b (decide (p0.Version ≤ 4611686018427387904))) (b := true) h4 (g0 rfl) rfl rfl rfl rfl rfl ?_
   refine o_1 (.b (decide (p0.Version ≤ 4611686018427387904))) rfl ?_
   rcases zF h with ⟨h5, h⟩ | ⟨h5, h⟩
   ·
    refine o_s (.ref 1 2) (gy rfl rfl rfl h5) rfl rfl rfl ?_
    refine o_s (.i p0.Len) (gy rfl rfl rfl h5) rfl rfl rfl ?_
    refine o_s (.b (decide (p0.Len ≥ 0))) (gy rfl rfl rfl h5) rfl rfl rfl ?_
    refine o_pk (.b (decide (p0.Len ≥ 0))) (b := true) h5 (g0 rfl) rfl rfl rfl rfl rfl ?_
    refine o_1 (.b (decide (p0.Len ≥ 0))) rfl ?_
    rcases zF h with ⟨h6, h⟩ | ⟨h6, h⟩
    ·
     refine o_s (.ref 1 2) (gy rfl rfl rfl h6) rfl rfl rfl ?_
     refine o_s (.i p0.Len) (gy rfl rfl rfl h6) rfl rfl rfl ?_
     refine o_s (.b (decide (p0.Len ≤ 1024))) (gy rfl rfl rfl h6) rfl rfl rfl ?_
     refine o_pk (.b (decide (p0.Len ≤ 1024))) (b := true) h6 (g0 rfl) rfl rfl rfl rfl rfl ?_
     refine o_1 (.b (decide (p0.Len ≤ 1024))) rfl ?_
     rcases zF h with ⟨h7, h⟩ | ⟨h7, h⟩
     ·
      refine o_s (.ref 1 3) (gy rfl rfl rfl h7) rfl rfl rfl ?_
      refine o_s (.i p0.First) (gy rfl rfl rfl h7) rfl rfl rfl ?_
      refine o_s (.b (decide (p0.First ≥ 0))) (gy rfl rfl rfl h7) rfl rfl rfl ?_
      refine o_pk (.b (decide (p0.First ≥ 0))) (b := true) h7 (g0 rfl) rfl rfl rfl rfl rfl ?_
      refine o_1 (.b (decide (p0.First ≥ 0))) rfl ?_
      rcases zF h with ⟨h8, h⟩ | ⟨h8, h⟩
      ·
       refine o_s (.ref 1 3) (gy rfl rfl rfl h8) rfl rfl rfl ?_
       refine o_s (.i p0.First) (gy rfl rfl rfl h8) rfl rfl rfl ?_
       refine o_s (.b (decide (p0.First ≤ 16384))) (gy rfl rfl rfl h8) rfl rfl rfl ?_
       refine o_pk (.b (decide (p0.First ≤ 16384))) (b := true) h8 (g0 rfl) rfl rfl rfl rfl rfl ?_
       refine o_1 (.b (decide (p0.First ≤ 16384))) rfl ?_
       refine zB (zJ ?_)
       obtain rfl := Option.some.inj h
       exact end0 rfl .r
      refine zC rfl rfl rfl h8 rfl rfl ?_
      refine zC rfl rfl rfl h8 rfl rfl ?_
      refine zC rfl rfl rfl h8 rfl rfl ?_
      refine o_pk (.b false) (b := false) h8 (g0 rfl) rfl rfl rfl rfl rfl ?_
      refine o_1 (.b false) rfl ?_
      refine zB (zJ ?_)
      obtain rfl := Option.some.inj h
      exact end0 rfl .r
     refine zC rfl rfl rfl h7 rfl rfl ?_
     refine zC rfl rfl rfl h7 rfl rfl ?_
     refine zC rfl rfl rfl h7 rfl rfl ?_
     refine o_pk (.b false) (b := false) h7 (g0 rfl) rfl rfl rfl rfl rfl ?_
     refine o_1 (.b false) rfl ?_
     refine zC rfl rfl rfl rfl rfl rfl ?_
     refine zC rfl rfl rfl rfl rfl rfl ?_
     refine zC rfl rfl rfl rfl rfl rfl ?_
     refine o_pk (.b false) (b := false) rfl (g0 rfl) rfl rfl rfl rfl rfl ?_
     refine o_1 (.b false) rfl ?_
     refine zB (zJ ?_)
     obtain rfl := Option.some.inj h
     exact end0 rfl .r
    refine zC rfl rfl rfl h6 rfl rfl ?_
    refine zC rfl rfl rfl h6 rfl rfl ?_
    refine zC rfl rfl rfl h6 rfl rfl ?_
    refine o_pk (.b false) (b := false) h6 (g0 rfl) rfl rfl rfl rfl rfl ?_
    refine o_1 (.b false) rfl ?_
    refine zC rfl rfl rfl rfl rfl rfl ?_
    refine zC rfl rfl rfl rfl rfl rfl ?_
    refine zC rfl rfl rfl rfl rfl rfl ?_
    refine o_pk (.b false) (b := false) rfl (g0 rfl) rfl rfl rfl rfl rfl ?_
    refine o_1 (.b false) rfl ?_
    refine zC rfl rfl rfl rfl rfl rfl ?_
    refine zC rfl rfl rfl rfl rfl rfl ?_
    refine zC rfl rfl rfl rfl rfl rfl ?_
    refine o_pk (.b false) (b := false) rfl (g0 rfl) rfl rfl rfl rfl rfl ?_
    refine o_1 (.b false) rfl ?_
    refine zB (zJ ?_)
    obtain rfl := Option.some.inj h
    exact end0 rfl .r
   refine zC rfl rfl rfl h5 rfl rfl ?_
   refine zC rfl rfl rfl h5 rfl rfl ?_
   refine zC rfl rfl rfl h5 rfl rfl ?_
   refine o_pk (.b false) (b := false) h5 (g0 rfl) rfl rfl rfl rfl rfl ?_
   refine o_1 (.b false) rfl ?_
   refine zC rfl rfl rfl rfl rfl rfl ?_
   refine zC rfl rfl rfl rfl rfl rfl ?_
   refine zC rfl rfl rfl rfl rfl rfl ?_
   refine o_pk (.b false) (b := false) rfl (g0 rfl) rfl rfl rfl rfl rfl ?_
   refine o_1 (.b false) rfl ?_
   refine zC rfl rfl rfl rfl rfl rfl ?_
   refine zC rfl rfl rfl rfl rfl rfl ?_
   refine zC rfl rfl rfl rfl rfl rfl ?_
   refine o_pk (.b false) (b := false) rfl (g0 rfl) rfl rfl rfl rfl rfl ?_
   refine o_1 (.b false) rfl ?_
   refine zC rfl rfl rfl rfl rfl rfl ?_
   refine zC rfl rfl rfl rfl rfl rfl ?_
   refine zC rfl rfl rfl rfl rfl rfl ?_
   refine o_pk (.b false) (b := false) rfl (g0 rfl) rfl rfl rfl rfl rfl ?_
   refine o_1 (.b false) rfl ?_
   refine zB (zJ ?_)
   obtain rfl := Option.some.inj h
   exact end0 rfl .r
  refine zC rfl rfl rfl h4 rfl rfl ?_
  refine zC rfl rfl rfl h4 rfl rfl ?_
  refine zC rfl rfl rfl h4 rfl rfl ?_
  refine o_pk (.b false) (b := false) h4 (g0 rfl) rfl rfl rfl rfl rfl ?_
  refine o_1 (.b false) rfl ?_
  refine zC rfl rfl rfl rfl rfl rfl ?_
  refine zC rfl rfl rfl rfl rfl rfl ?_
  refine zC rfl rfl rfl rfl rfl rfl ?_
  refine o_pk (.b false) (b := false) rfl (g0 rfl) rfl rfl rfl rfl rfl ?_
  refine o_1 (.b false) rfl ?_
  refine zC rfl rfl rfl rfl rfl rfl ?_
  refine zC rfl rfl rfl rfl rfl rfl ?_
  refine zC rfl rfl rfl rfl rfl rfl ?_
  refine o_pk (.b false) (b := false) rfl (g0 rfl) rfl rfl rfl rfl rfl ?_
  refine o_1 (.b false) rfl ?_
  refine zC rfl rfl rfl rfl rfl rfl ?_
  refine zC rfl rfl rfl rfl rfl rfl ?_
  refine zC rfl rfl rfl rfl rfl rfl ?_
  refine o_pk (.b false) (b := false) rfl (g0 rfl) rfl rfl rfl rfl rfl ?_
  refine o_1 (.b false) rfl ?_
  refine zC rfl rfl rfl rfl rfl rfl ?_
  refine zC rfl rfl rfl rfl rfl rfl ?_
  refine zC rfl rfl rfl rfl rfl rfl ?_
  refine o_pk (.b false) (b := false) rfl (g0 rfl) rfl rfl rfl rfl rfl ?_
  refine o_1 (.b false) rfl ?_
  refine zB (zJ ?_)
  obtain rfl := Option.some.inj h
  exact end0 rfl .r
 refine zC rfl rfl rfl h3 rfl rfl ?_
 refine zC rfl rfl rfl h3 rfl rfl ?_
 refine zC rfl rfl rfl h3 rfl rfl ?_
 refine o_pk (.b false) (b := false) h3 (g0 rfl) rfl rfl rfl rfl rfl ?_
 refine o_1 (.b false) rfl ?_
 refine zC rfl rfl rfl rfl rfl rfl ?_
 refine zC rfl rfl rfl rfl rfl rfl ?_
 refine zC rfl rfl rfl rfl rfl rfl ?_
 refine o_pk (.b false) (b := false) rfl (g0 rfl) rfl rfl rfl rfl rfl ?_
 refine o_1 (.b false) rfl ?_
 refine zC rfl rfl rfl rfl rfl rfl ?_
 refine zC rfl rfl rfl rfl rfl rfl ?_
 refine zC rfl rfl rfl rfl rfl rfl ?_
 refine o_pk (.b false) (b := false) rfl (g0 rfl) rfl rfl rfl rfl rfl ?_
 refine o_1 (.b false) rfl ?_
 refine zC rfl rfl rfl rfl rfl rfl ?_
 refine zC rfl rfl rfl rfl rfl rfl ?_
 refine zC rfl rfl rfl rfl rfl rfl ?_
 refine o_pk (.b false) (b := false) rfl (g0 rfl) rfl rfl rfl rfl rfl ?_
 refine o_1 (.b false) rfl ?_
 refine zC rfl rfl rfl rfl rfl rfl ?_
 refine zC rfl rfl rfl rfl rfl rfl ?_
 refine zC rfl rfl rfl rfl rfl rfl ?_
 refine o_pk (.b false) (b := false) rfl (g0 rfl) rfl rfl rfl rfl rfl ?_
 refine o_1 (.b false) rfl ?_
 refine zC rfl rfl rfl rfl rfl rfl ?_
 refine zC rfl rfl rfl rfl rfl rfl ?_
 refine zC rfl rfl rfl rfl rfl rfl ?_
 refine o_pk (.b false) (b := false) rfl (g0 rfl) rfl rfl rfl rfl rfl ?_
 refine o_1 (.b false) rfl ?_
 refine zB (zJ ?_)
 obtain rfl := Option.some.inj h
 exact end0 rfl .r
end Go.Proofs.Ytjomnccladjpgaa

/-
 Walks of functions: each function does what its model tells. Printed by a program of this claim's own (gen.py) off the given translation.
-/
namespace Go.Proofs.Ytjomnccladjpgaa
open Go Go.RowKit
set_option linter.unusedVariables false
set_option maxHeartbeats 4000000
set_option maxRecDepth 20000
end Go.Proofs.Ytjomnccladjpgaa

/-
 Walks of functions: each function does what its model tells. Printed by a program of this claim's own (gen.py) off the given translation.
-/
namespace Go.Proofs.Ytjomnccladjpgaa
open Go Go.RowKit
set_option linter.unusedVariables false
set_option maxHeartbeats 4000000
set_option maxRecDepth 20000
theorem zAT (p0 : (List zA)) (p1 : Int) (p2 : Int) (F3 : Nat) (C3 : List (List D)) (p3 : (zA → zA → Option Int)) (hp3 : ∀ (a0 : zA) (a1 : zA) r, p3 a0 a1 = some r → FC Try.prog F3 ([.t (.agg [.lit (.string ⟨⟨a0.Key⟩⟩), .lit (.int .i64 a0.Version), .lit (.int .i64 a0.Len), .lit (.int .i64 a0.First)]), .t (.agg [.lit (.string ⟨⟨a1.Key⟩⟩), .lit (.int .i64 a1.Version), .lit (.int .i64 a1.Len), .lit (.int .i64 a1.First)])] ++ C3.map A.imm) [] (.t (.d (.lit (.int .i64 r))))) (hf3 : ∃ fn, Try.prog.funcs[F3]? = some fn ∧ fn.body.isNone = false ∧ (fn.name == "runtime.NumGoroutine") = false) (w0 : Hp) (r : (List zA)) (h : qM p0 p1 p2 p3 = some r) : FCH Try.prog 135 [.t (.view 0 0 78 4 p0.length), .t (.d (.lit (.int .i64 p1))), .t (.d (.lit (.int .i64 p2))), .t (.d (.clo F3 C3))] [.box (fl (dT zI) p0)] [.box (fl (dT zI) r)] (hpA w0) (hpA w0) (.tup []) := by
 refine qY (rs := []) (n := 53) [] Try.func135 rfl rfl (Nat.le_of_ble_eq_true rfl) rfl (pins := [OB + 0]) rfl (L := [(HK, .hp (hpA w0)), (OB + 0, .box (fl (dT zI) p0)), (0, .t (.view 0 0 78 4 p0.length)), (1, .i p1), (2, .i p2), (3, .t (.d (.clo F3 C3)))]) rfl ?_
 refine c_sr ?_
 refine o_m3 (.i p1) (.i (wi (p1 + 1))) (.i (wi (p1 + 1))) rfl ?_
 refine zB (qC ?_)
 refine zC4 (fun (q : Int × (List zA)) => [(0, .t (.view 0 0 78 4 q.2.length)), (1, .i p1), (2, .i p2), (3, .t (.d (.clo F3 C3))), (8, .i q.1), ((OB + 0), .box (fl (dT zI) q.2)), (HK, .hp (hpA w0))]) (fun nl1 => (fun (q : Int × (List zA)) => zO p2 p1 p3 nl1 q.1 q.2 = some r)) (Int.toNat p2 + 1) ((wi (p1 + 1)), p0) [] h rfl ⟨.inr ⟨_, rfl, zD _⟩, by (repeat (first | exact ObP.nil | refine ObP.cons (.inl rfl) ?_ | refine ObP.cons (.inr (fun _ => rfl)) ?_ | refine ObP.cons (.inr (qW (zP _ _))) ?_ | refine ObP.cons (.inr (zAJ _ _)) ?_))⟩ ⟨.r, .r, .r, .r, .r, .r, .r, trivial⟩ rfl ?_
 rintro nl1 ⟨z1, z2⟩ h
 cases nl1 with
 | zero => exact qV h
 | succ nl1 =>
  refine zL (c_sr ?_)
  refine o_m3 (.i z1) (.i p2) (.b (decide (z1 < p2))) rfl ?_
  refine zB ?_
  rcases zF h with ⟨h3, h⟩ | ⟨h3, h⟩
  ·
   refine c_t h3 rfl ?_
   refine zK ?_
   refine zEZ (fun (y4 : (List zA)) => [(0, .t (.view 0 0 78 4 y4.length)), (1, .i p1), (2, .i p2), (3, .t (.d (.clo F3 C3))), (8, .i z1), ((OB + 0), .box (fl (dT zI) y4)), (HK, .hp (hpA w0))]) (fun (y4 : (List zA)) => qU (zO p2 p1 p3 nl1) z1 y4 = some r) ?_ ?_
   ·
    refine qC (c_sr ?_)
    refine o_m2 (.i z1) (.i z1) rfl ?_
    refine zB (qC ?_)
    refine zC4 (fun (q : Int × (List zA)) => [(0, .t (.view 0 0 78 4 q.2.length)), (1, .i p1), (2, .i p2), (3, .t (.d (.clo F3 C3))), (8, .i z1), (9, .i q.1), ((OB + 0), .box (fl (dT zI) q.2)), (HK, .hp (hpA w0))]) (fun nl3 => (fun (q : Int × (List zA)) => qB (zO p2 p1 p3 nl1) p1 p3 z1 nl3 q.1 q.2 = some r)) (Int.toNat z1 + 1) (z1, z2) [] h rfl ⟨.inr ⟨_, rfl, zD _⟩, by (repeat (first | exact ObP.nil | refine ObP.cons (.inl rfl) ?_ | refine ObP.cons (.inr (fun _ => rfl)) ?_ | refine ObP.cons (.inr (qW (zP _ _))) ?_ | refine ObP.cons (.inr (zAJ _ _)) ?_))⟩ ⟨.r, .r, .r, .r, .r, .r, .r, .r, trivial⟩ rfl ?_
    rintro nl3 ⟨z5, z6⟩ h
    cases nl3 with
    | zero => exact qV h
    | succ nl3 =>
     refine zL (zL ?_)
     refine zAC zBM (by kernel_rfl) ?_
     refine d_s (.i z5) rfl (dg0 rfl) rfl rfl rfl rfl ?_
     refine d_s (.i p1) rfl (dg0 rfl) rfl rfl rfl rfl ?_
     refine d_s (.b (decide (z5 > p1))) rfl (dg0 rfl) rfl rfl rfl rfl ?_
     refine d_s (.b (decide (z5 > p1))) rfl (dg0 rfl) rfl rfl rfl rfl ?_
     rcases zF h with ⟨h7, h⟩ | ⟨h7, h⟩
     ·
      refine d_s (.t (.d (.clo F3 C3))) rfl (dgy rfl rfl rfl rfl h7) rfl rfl rfl rfl ?_
      refine d_s (.t (.view 0 0 78 4 z6.length)) rfl (dgy rfl rfl rfl rfl h7) rfl rfl rfl rfl ?_
      refine d_s (.i z5) rfl (dgy rfl rfl rfl rfl h7) rfl rfl rfl rfl ?_
      obtain ⟨x8, h9, h⟩ := bind_some h
      refine d_h0 [] (e := [(25, .ref (OB + 0) (0 + Int.toNat z5 * 4))]) (ks := [25]) rfl (dgy rfl rfl rfl rfl h7) rfl rfl (fun S' hM hok => zIH hM rfl rfl rfl rfl rfl (idxV rfl h9) rfl rfl (hok _ rfl rfl)) rfl ?_
      refine d_h0 [] (e := [(26, .t (.agg [.s x8.Key, .i x8.Version, .i x8.Len, .i x8.First]))]) (ks := [26]) rfl (dgy rfl rfl rfl rfl h7) rfl rfl (fun S' hM hok => h_llr hM rfl rfl rfl rfl (zHD (k := 4) h9 (fun _ => rfl)) rfl rfl rfl rfl rfl (hok _ rfl rfl)) rfl ?_
      refine d_s (.t (.view 0 0 78 4 z6.length)) rfl (dgy rfl rfl rfl rfl h7) rfl rfl rfl rfl ?_
      refine d_s (.i z5) rfl (dgy rfl rfl rfl rfl h7) rfl rfl rfl rfl ?_
      refine d_s (.i (wi (z5 - 1))) rfl (dgy rfl rfl rfl rfl h7) rfl rfl rfl rfl ?_
      obtain ⟨x10, h11, h⟩ := bind_some h
      refine d_h0 [] (e := [(30, .ref (OB + 0) (0 + Int.toNat (wi (z5 - 1)) * 4))]) (ks := [30]) rfl (dgy rfl rfl rfl rfl h7) rfl rfl (fun S' hM hok => zIH hM rfl rfl rfl rfl rfl (idxV rfl h11) rfl rfl (hok _ rfl rfl)) rfl ?_
      refine d_h0 [] (e := [(31, .t (.agg [.s x10.Key, .i x10.Version, .i x10.Len, .i x10.First]))]) (ks := [31]) rfl (dgy rfl rfl rfl rfl h7) rfl rfl (fun S' hM hok => h_llr hM rfl rfl rfl rfl (zHD (k := 4) h11 (fun _ => rfl)) rfl rfl rfl rfl rfl (hok _ rfl rfl)) rfl ?_
      obtain ⟨x12, h13, h⟩ := bind_some h
      refine d_cc (hp3 _ _ _ h13) rfl (dgy rfl rfl rfl rfl h7) rfl rfl rfl rfl rfl hf3.choose_spec.1 hf3.choose_spec.2.1 hf3.choose_spec.2.2 (.cons .r (.cons .r .nil)) rfl rfl ?_
      refine d_s (.b (decide (x12 < 0))) rfl (dgy rfl rfl rfl rfl h7) rfl rfl rfl rfl ?_
      refine d_pk (.b (decide (x12 < 0))) (b := true) h7 rfl (dg0 rfl) rfl rfl rfl rfl rfl rfl ?_
      refine zAd (by kernel_rfl) ?_
      rcases zF h with ⟨h14, h⟩ | ⟨h14, h⟩
      ·
       refine c_t h14 rfl ?_
       refine zK (zL (qC ?_))
       refine zAC zBM (by kernel_rfl) ?_
       refine d_s (.t (.view 0 0 78 4 z6.length)) rfl (dg0 rfl) rfl rfl rfl rfl ?_
       refine d_s (.i z5) rfl (dg0 rfl) rfl rfl rfl rfl ?_
       refine d_s (.t (.view 0 0 78 4 z6.length)) rfl (dg0 rfl) rfl rfl rfl rfl ?_
       refine d_s (.i z5) rfl (dg0 rfl) rfl rfl rfl rfl ?_
       refine d_s (.i (wi (z5 - 1))) rfl (dg0 rfl) rfl rfl rfl rfl ?_
       refine d_s (.t (.view 0 0 78 4 z6.length)) rfl (dg0 rfl) rfl rfl rfl rfl ?_
       refine d_s (.i z5) rfl (dg0 rfl) rfl rfl rfl rfl ?_
       refine d_s (.i (wi (z5 - 1))) rfl (dg0 rfl) rfl rfl rfl rfl ?_
       obtain ⟨x15, h16, h⟩ := bind_some h
       refine d_h0 [] (e := [(45, .ref (OB + 0) (0 + Int.toNat (wi (z5 - 1)) * 4))]) (ks := [45]) rfl (dg0 rfl) rfl rfl (fun S' hM hok => zIH hM rfl rfl rfl rfl rfl (idxV rfl h16) rfl rfl (hok _ rfl rfl)) rfl ?_
       refine d_h0 [] (e := [(46, .t (.agg [.s x15.Key, .i x15.Version, .i x15.Len, .i x15.First]))]) (ks := [46]) rfl (dg0 rfl) rfl rfl (fun S' hM hok => h_llr hM rfl rfl rfl rfl (zHD (k := 4) h16 (fun _ => rfl)) rfl rfl rfl rfl rfl (hok _ rfl rfl)) rfl ?_
       refine d_s (.t (.view 0 0 78 4 z6.length)) rfl (dg0 rfl) rfl rfl rfl rfl ?_
       refine d_s (.i z5) rfl (dg0 rfl) rfl rfl rfl rfl ?_
       obtain ⟨x17, h18, h⟩ := bind_some h
       refine d_h0 [] (e := [(49, .ref (OB + 0) (0 + Int.toNat z5 * 4))]) (ks := [49]) rfl (dg0 rfl) rfl rfl (fun S' hM hok => zIH hM rfl rfl rfl rfl rfl (idxV rfl h18) rfl rfl (hok _ rfl rfl)) rfl ?_
       refine d_h0 [] (e := [(50, .t (.agg [.s x17.Key, .i x17.Version, .i x17.Len, .i x17.First]))]) (ks := [50]) rfl (dg0 rfl) rfl rfl (fun S' hM hok => h_llr hM rfl rfl rfl rfl (zHD (k := 4) h18 (fun _ => rfl)) rfl rfl rfl rfl rfl (hok _ rfl rfl)) rfl ?_
       obtain ⟨x19, h20, h⟩ := bind_some h
       refine d_h0 [] (e := [(51, .ref (OB + 0) (0 + Int.toNat z5 * 4))]) (ks := [51]) rfl (dg0 rfl) rfl rfl (fun S' hM hok => zIH hM rfl rfl rfl rfl rfl (idxV rfl h20) rfl rfl (hok _ rfl rfl)) rfl ?_
       refine d_h0 [] (e := [((OB + 0), .box (fl (dT zI) (z6.set (Int.toNat z5) x15)))]) (ks := [(OB + 0)]) rfl (dg0 rfl) rfl rfl (fun S' hM hok => zKC hM rfl rfl rfl rfl rfl rfl rfl (zF9 (c := zI) (k := 4) (q := 0) h20 (fun _ => rfl) rfl) (zHS (c := zI) (k := 4) (q := 0) h20 x15 (fun _ => rfl) rfl rfl)) rfl ?_
       obtain ⟨x21, h22, h⟩ := bind_some h
       refine d_h0 [] (e := [(52, .ref (OB + 0) (0 + Int.toNat (wi (z5 - 1)) * 4))]) (ks := [52]) rfl (dg0 rfl) rfl rfl (fun S' hM hok => zIH hM rfl rfl rfl rfl rfl (idxV (by first | rfl | omega | (simp; done) | (dsimp only; omega) | (simp; omega)) h22) rfl rfl (hok _ rfl rfl)) rfl ?_
       refine d_h0 [] (e := [((OB + 0), .box (fl (dT zI) ((z6.set (Int.toNat z5) x15).set (Int.toNat (wi (z5 - 1))) x17)))]) (ks := [(OB + 0)]) rfl (dg0 rfl) rfl rfl (fun S' hM hok => zKC hM rfl rfl rfl rfl rfl rfl rfl (zF9 (c := zI) (k := 4) (q := 0) h22 (fun _ => rfl) rfl) (zHS (c := zI) (k := 4) (q := 0) h22 x17 (fun _ => rfl) rfl rfl)) rfl ?_
       refine zAd (by kernel_rfl) ?_
       refine zS ?_
       refine o_m3 (.i z5) (.i (wi (z5 - 1))) (.i (wi (z5 - 1))) rfl ?_
       refine zB ?_
       exact ⟨nl3, ((wi (z5 - 1)), ((z6.set (Int.toNat z5) x15).set (Int.toNat (wi (z5 - 1))) x17)), [], Nat.lt_succ_self nl3, h, rfl, ⟨.inr ⟨_, rfl, zD _⟩, by (repeat (first | exact ObP.nil | refine ObP.cons (.inl rfl) ?_ | refine ObP.cons (.inr (fun _ => rfl)) ?_ | refine ObP.cons (.inr (qW (zP _ _))) ?_ | refine ObP.cons (.inr (zAJ _ _)) ?_))⟩, ⟨(.vwn (by first | rfl | omega | (simp; done) | (dsimp only; omega) | (simp; omega))), .r, .r, .r, .r, .r, .r, .r, trivial⟩, rfl⟩
      refine c_f h14 rfl ?_
      refine zAs ?_
      exact ⟨z6, [], h, rfl, ⟨.inr ⟨_, rfl, zD _⟩, by (repeat (first | exact ObP.nil | refine ObP.cons (.inl rfl) ?_ | refine ObP.cons (.inr (fun _ => rfl)) ?_ | refine ObP.cons (.inr (qW (zP _ _))) ?_ | refine ObP.cons (.inr (zAJ _ _)) ?_))⟩, ⟨.r, .r, .r, .r, .r, .r, .r, trivial⟩, rfl⟩
     refine qO rfl rfl rfl rfl rfl h7 rfl rfl rfl ?_
     refine qO rfl rfl rfl rfl rfl h7 rfl rfl rfl ?_
     refine qO rfl rfl rfl rfl rfl h7 rfl rfl rfl ?_
     refine qO rfl rfl rfl rfl rfl h7 rfl rfl rfl ?_
     refine qO rfl rfl rfl rfl rfl h7 rfl rfl rfl ?_
     refine qO rfl rfl rfl rfl rfl h7 rfl rfl rfl ?_
     refine qO rfl rfl rfl rfl rfl h7 rfl rfl rfl ?_
     refine qO rfl rfl rfl rfl rfl h7 rfl rfl rfl ?_
     refine qO rfl rfl rfl rfl rfl h7 rfl rfl rfl ?_
     refine qO rfl rfl rfl rfl rfl h7 rfl rfl rfl ?_
     refine qO rfl rfl rfl rfl rfl h7 rfl rfl rfl ?_
     refine qO rfl rfl rfl rfl rfl h7 rfl rfl rfl ?_
     refine d_pk (.b false) (b := false) h7 rfl (dg0 rfl) rfl rfl rfl rfl rfl rfl ?_
     refine zAd (by kernel_rfl) ?_
     refine c_f rfl rfl ?_
     refine zAs ?_
     exact ⟨z6, [], h, rfl, ⟨.inr ⟨_, rfl, zD _⟩, by (repeat (first | exact ObP.nil | refine ObP.cons (.inl rfl) ?_ | refine ObP.cons (.inr (fun _ => rfl)) ?_ | refine ObP.cons (.inr (qW (zP _ _))) ?_ | refine ObP.cons (.inr (zAJ _ _)) ?_))⟩, ⟨.r, .r, .r, .r, .r, .r, .r, trivial⟩, rfl⟩
   rintro y4 h
   refine zS ?_
   refine o_m3 (.i z1) (.i (wi (z1 + 1))) (.i (wi (z1 + 1))) rfl ?_
   refine zB ?_
   exact ⟨nl1, ((wi (z1 + 1)), y4), [], Nat.lt_succ_self nl1, h, rfl, ⟨.inr ⟨_, rfl, zD _⟩, by (repeat (first | exact ObP.nil | refine ObP.cons (.inl rfl) ?_ | refine ObP.cons (.inr (fun _ => rfl)) ?_ | refine ObP.cons (.inr (qW (zP _ _))) ?_ | refine ObP.cons (.inr (zAJ _ _)) ?_))⟩, ⟨.r, .r, .r, .r, .r, .r, .r, trivial⟩, rfl⟩
  refine c_f h3 rfl ?_
  refine zAs ?_
  obtain rfl := Option.some.inj h
  exact ⟨⟨_, rfl, .r⟩, ⟨rfl, trivial⟩, rfl⟩
theorem zCX (p0 : (List zA)) (p1 : Int) (F2 : Nat) (C2 : List (List D)) (p2 : (zA → zA → Option Int)) (hp2 : ∀ (a0 : zA) (a1 : zA) r, p2 a0 a1 = some r → FC Try.prog F2 ([.t (.agg [.lit (.string ⟨⟨a0.Key⟩⟩), .lit (.int .i64 a0.Version), .lit (.int .i64 a0.Len), .lit (.int .i64 a0.First)]), .t (.agg [.lit (.string ⟨⟨a1.Key⟩⟩), .lit (.int .i64 a1.Version), .lit (.int .i64 a1.Len), .lit (.int .i64 a1.First)])] ++ C2.map A.imm) [] (.t (.d (.lit (.int .i64 r))))) (hf2 : ∃ fn, Try.prog.funcs[F2]? = some fn ∧ fn.body.isNone = false ∧ (fn.name == "runtime.NumGoroutine") = false) (w0 : Hp) (r : (List zA)) (h : zAR p0 p1 p2 = some r) : FCH Try.prog 126 [.t (.view 0 0 78 4 p0.length), .t (.d (.lit (.int .i64 p1))), .t (.d (.clo F2 C2))] [.box (fl (dT zI) p0)] [.box (fl (dT zI) r)] (hpA w0) (hpA w0) (.tup []) := by
 refine qY (rs := []) (n := 63) [] Try.func126 rfl rfl (Nat.le_of_ble_eq_true rfl) rfl (pins := [OB + 0]) rfl (L := [(HK, .hp (hpA w0)), (OB + 0, .box (fl (dT zI) p0)), (0, .t (.view 0 0 78 4 p0.length)), (1, .i p1), (2, .t (.d (.clo F2 C2)))]) rfl ?_
 refine c_sr ?_
 refine o_1 (.i 20) rfl ?_
 refine zB (c_sr ?_)
 refine o_m3 (.i 20) (.i 0) (.i 20) rfl ?_
 refine zB ?_
 refine zEZ (fun (q : Int × (List zA)) => [(0, .t (.view 0 0 78 4 q.2.length)), (1, .i p1), (2, .t (.d (.clo F2 C2))), (6, .i 20), (7, .i q.1), ((OB + 0), .box (fl (dT zI) q.2)), (HK, .hp (hpA w0))]) (fun (q : Int × (List zA)) => zAH p1 p2 q.1 q.2 = some r) ?_ ?_
 ·
  refine qC ?_
  refine zC4 (fun (q : Int × Int × (List zA)) => [(0, .t (.view 0 0 78 4 q.2.2.length)), (1, .i p1), (2, .t (.d (.clo F2 C2))), (6, .i 20), (7, .i q.1), (8, .i q.2.1), ((OB + 0), .box (fl (dT zI) q.2.2)), (HK, .hp (hpA w0))]) (fun nl5 => (fun (q : Int × Int × (List zA)) => yN p1 p2 nl5 q.1 q.2.1 q.2.2 = some r)) (2) (0, 20, p0) [] h rfl ⟨.inr ⟨_, rfl, zD _⟩, by (repeat (first | exact ObP.nil | refine ObP.cons (.inl rfl) ?_ | refine ObP.cons (.inr (fun _ => rfl)) ?_ | refine ObP.cons (.inr (qW (zP _ _))) ?_ | refine ObP.cons (.inr (zAJ _ _)) ?_))⟩ ⟨.r, .r, .r, .r, .r, .r, .r, .r, trivial⟩ rfl ?_
  rintro nl5 ⟨z14, z15, z16⟩ h
  cases nl5 with
  | zero => exact qV h
  | succ nl5 =>
   refine zL (c_sr ?_)
   refine o_m3 (.i z15) (.i p1) (.b (decide (z15 ≤ p1))) rfl ?_
   refine zB ?_
   rcases zF h with ⟨h17, h⟩ | ⟨h17, h⟩
   ·
    refine c_t h17 rfl ?_
    refine zK (qC (c_sr ?_))
    refine o_m4 (.t (.view 0 0 78 4 z16.length)) (.i z14) (.i z15) (.t (.d (.clo F2 C2))) rfl ?_
    obtain ⟨x18, h19, h⟩ := bind_some h
    refine o_of (e := [((OB + 0), .box (fl (dT zI) x18)), (18, .tup [])]) (g0 rfl) (qL mR rfl (σ := [0]) (fr := []) rfl rfl rfl rfl rfl rfl rfl (zAT _ _ _ F2 C2 _ hp2 hf2 w0 _ h19) (zD _) rfl (by simp [A.flatO, zP]) (by simp [A.flatO, zP]) rfl (.cons (argVw rfl rfl rfl) (.cons (.plain .r rfl) (.cons (.plain .r rfl) (.cons (.plain .r rfl) .nil)))) rfl (.tup .nil)) rfl ?_
    obtain ⟨x20, h21, h⟩ := bind_some h
    have h21 : x18.length = z16.length := zAu h21
    refine zB (c_sr ?_)
    refine o_m2 (.i z15) (.i z15) rfl ?_
    refine zB (zS ?_)
    refine o_m4 (.i z15) (.i 20) (.i (wi (z15 + 20))) (.i (wi (z15 + 20))) rfl ?_
    refine zB ?_
    exact ⟨nl5, (z15, (wi (z15 + 20)), x18), [], Nat.lt_succ_self nl5, h, rfl, ⟨.inr ⟨_, rfl, zD _⟩, by (repeat (first | exact ObP.nil | refine ObP.cons (.inl rfl) ?_ | refine ObP.cons (.inr (fun _ => rfl)) ?_ | refine ObP.cons (.inr (qW (zP _ _))) ?_ | refine ObP.cons (.inr (zAJ _ _)) ?_))⟩, ⟨(.vwn (by first | rfl | omega | (simp; done) | (dsimp only; omega) | (simp; omega))), .r, .r, .r, .r, .r, .r, .r, trivial⟩, rfl⟩
   refine c_f h17 rfl ?_
   refine zAs ?_
   exact ⟨(z14, z16), [], h, rfl, ⟨.inr ⟨_, rfl, zD _⟩, by (repeat (first | exact ObP.nil | refine ObP.cons (.inl rfl) ?_ | refine ObP.cons (.inr (fun _ => rfl)) ?_ | refine ObP.cons (.inr (qW (zP _ _))) ?_ | refine ObP.cons (.inr (zAJ _ _)) ?_))⟩, ⟨.r, .r, .r, .r, .r, .r, .r, trivial⟩, rfl⟩
 rintro ⟨y1, y2⟩ h
 refine c_sr ?_
 refine o_m4 (.t (.view 0 0 78 4 y2.length)) (.i y1) (.i p1) (.t (.d (.clo F2 C2))) rfl ?_
 obtain ⟨x3, h4, h⟩ := bind_some h
 refine o_of (e := [((OB + 0), .box (fl (dT zI) x3)), (27, .tup [])]) (g0 rfl) (qL mR rfl (σ := [0]) (fr := []) rfl rfl rfl rfl rfl rfl rfl (zAT _ _ _ F2 C2 _ hp2 hf2 w0 _ h4) (zD _) rfl (by simp [A.flatO, zP]) (by simp [A.flatO, zP]) rfl (.cons (argVw rfl rfl rfl) (.cons (.plain .r rfl) (.cons (.plain .r rfl) (.cons (.plain .r rfl) .nil)))) rfl (.tup .nil)) rfl ?_
 obtain ⟨x5, h6, h⟩ := bind_some h
 have h6 : x3.length = y2.length := zAu h6
 refine zB (qC ?_)
 refine zC4 (fun (z7 : Int) => [(0, .t (.view 0 0 78 4 x3.length)), (1, .i p1), (2, .t (.d (.clo F2 C2))), (6, .i z7), ((OB + 0), .box (fl (dT zI) x3)), (HK, .hp (hpA w0))]) (fun nl2 => (fun (z7 : Int) => qK p1 x3 nl2 z7 = some r)) (2) 20 [] h rfl ⟨.inr ⟨_, rfl, zD _⟩, by (repeat (first | exact ObP.nil | refine ObP.cons (.inl rfl) ?_ | refine ObP.cons (.inr (fun _ => rfl)) ?_ | refine ObP.cons (.inr (qW (zP _ _))) ?_ | refine ObP.cons (.inr (zAJ _ _)) ?_))⟩ ⟨(.vwn (by first | rfl | omega | (simp; done) | (dsimp only; omega) | (simp; omega))), .r, .r, .r, .r, .r, trivial⟩ rfl ?_
 rintro nl2 z7 h
 cases nl2 with
 | zero => exact qV h
 | succ nl2 =>
  refine zL (c_sr ?_)
  refine o_m3 (.i z7) (.i p1) (.b (decide (z7 < p1))) rfl ?_
  refine zB ?_
  rcases zF h with ⟨h8, h⟩ | ⟨h8, h⟩
  ·
   refine c_t h8 rfl ?_
   refine zK (qC (c_sr ?_))
   refine o_m4 (.i z7) (.i (wi (2 * z7))) (.i 0) (.i (wi (2 * z7))) rfl ?_
   refine zB ?_
   refine zEZ (fun (y9 : Int) => [(0, .t (.view 0 0 78 4 x3.length)), (1, .i p1), (2, .t (.d (.clo F2 C2))), (6, .i z7), (7, .i y9), ((OB + 0), .box (fl (dT zI) x3)), (HK, .hp (hpA w0))]) (fun (y9 : Int) => zAy (qK p1 x3 nl2) z7 p1 y9 = some r) ?_ ?_
   ·
    refine qC ?_
    refine zC4 (fun (q : Int × Int) => [(0, .t (.view 0 0 78 4 x3.length)), (1, .i p1), (2, .t (.d (.clo F2 C2))), (6, .i z7), (7, .i q.1), (8, .i q.2), ((OB + 0), .box (fl (dT zI) x3)), (HK, .hp (hpA w0))]) (fun nl4 => (fun (q : Int × Int) => zAz (qK p1 x3 nl2) p1 z7 nl4 q.1 q.2 = some r)) (2) (0, (wi (2 * z7))) [] h rfl ⟨.inr ⟨_, rfl, zD _⟩, by (repeat (first | exact ObP.nil | refine ObP.cons (.inl rfl) ?_ | refine ObP.cons (.inr (fun _ => rfl)) ?_ | refine ObP.cons (.inr (qW (zP _ _))) ?_ | refine ObP.cons (.inr (zAJ _ _)) ?_))⟩ ⟨.r, .r, .r, .r, .r, .r, .r, .r, trivial⟩ rfl ?_
    rintro nl4 ⟨z11, z12⟩ h
    cases nl4 with
    | zero => exact qV h
    | succ nl4 =>
     refine zL (c_sr ?_)
     refine o_m3 (.i z12) (.i p1) (.b (decide (z12 ≤ p1))) rfl ?_
     refine zB ?_
     rcases zF h with ⟨h13, h⟩ | ⟨h13, h⟩
     ·
      refine c_t h13 rfl ?_
      refine zK (qC (c_sr ?_))
      refine o_m7 (.t (.view 0 0 78 4 x3.length)) (.i z11) (.i z11) (.i z7) (.i (wi (z11 + z7))) (.i z12) (.t (.d (.clo F2 C2))) rfl ?_
      exact qV h
     refine c_f h13 rfl ?_
     refine zAs ?_
     exact ⟨z11, [], h, rfl, ⟨.inr ⟨_, rfl, zD _⟩, by (repeat (first | exact ObP.nil | refine ObP.cons (.inl rfl) ?_ | refine ObP.cons (.inr (fun _ => rfl)) ?_ | refine ObP.cons (.inr (qW (zP _ _))) ?_ | refine ObP.cons (.inr (zAJ _ _)) ?_))⟩, ⟨.r, .r, .r, .r, .r, .r, .r, trivial⟩, rfl⟩
   rintro y9 h
   refine zL (c_sr ?_)
   refine o_m4 (.i y9) (.i z7) (.i (wi (y9 + z7))) (.i (wi (y9 + z7))) rfl ?_
   refine zB (c_sr ?_)
   refine o_m3 (.i (wi (y9 + z7))) (.i p1) (.b (decide ((wi (y9 + z7)) < p1))) rfl ?_
   refine zB ?_
   rcases zF h with ⟨h10, h⟩ | ⟨h10, h⟩
   ·
    refine c_t h10 rfl ?_
    refine zS ?_
    refine o_m5 (.t (.view 0 0 78 4 x3.length)) (.i y9) (.i (wi (y9 + z7))) (.i p1) (.t (.d (.clo F2 C2))) rfl ?_
    exact qV h
   refine c_f h10 rfl ?_
   refine zK (zS ?_)
   refine o_m3 (.i z7) (.i (wi (z7 * 2))) (.i (wi (z7 * 2))) rfl ?_
   refine zB ?_
   exact ⟨nl2, (wi (z7 * 2)), [], Nat.lt_succ_self nl2, h, rfl, ⟨.inr ⟨_, rfl, zD _⟩, by (repeat (first | exact ObP.nil | refine ObP.cons (.inl rfl) ?_ | refine ObP.cons (.inr (fun _ => rfl)) ?_ | refine ObP.cons (.inr (qW (zP _ _))) ?_ | refine ObP.cons (.inr (zAJ _ _)) ?_))⟩, ⟨.r, .r, .r, .r, .r, .r, trivial⟩, rfl⟩
  refine c_f h8 rfl ?_
  refine zAs ?_
  obtain rfl := Option.some.inj h
  exact ⟨⟨_, rfl, .r⟩, ⟨rfl, trivial⟩, rfl⟩
theorem zCV (p0 : (List zA)) (F1 : Nat) (C1 : List (List D)) (p1 : (zA → zA → Option Int)) (hp1 : ∀ (a0 : zA) (a1 : zA) r, p1 a0 a1 = some r → FC Try.prog F1 ([.t (.agg [.lit (.string ⟨⟨a0.Key⟩⟩), .lit (.int .i64 a0.Version), .lit (.int .i64 a0.Len), .lit (.int .i64 a0.First)]), .t (.agg [.lit (.string ⟨⟨a1.Key⟩⟩), .lit (.int .i64 a1.Version), .lit (.int .i64 a1.Len), .lit (.int .i64 a1.First)])] ++ C1.map A.imm) [] (.t (.d (.lit (.int .i64 r))))) (hf1 : ∃ fn, Try.prog.funcs[F1]? = some fn ∧ fn.body.isNone = false ∧ (fn.name == "runtime.NumGoroutine") = false) (w0 : Hp) (r : (List zA)) (h : yC p0 p1 = some r) : FCH Try.prog 103 [.t (.view 0 0 78 4 p0.length), .t (.d (.clo F1 C1))] [.box (fl (dT zI) p0)] [.box (fl (dT zI) r)] (hpA w0) (hpA w0) (.tup []) := by
 refine qY (rs := []) (n := 9) [] Try.func103 rfl rfl (Nat.le_of_ble_eq_true rfl) rfl (pins := [OB + 0]) rfl (L := [(HK, .hp (hpA w0)), (OB + 0, .box (fl (dT zI) p0)), (0, .t (.view 0 0 78 4 p0.length)), (1, .t (.d (.clo F1 C1)))]) rfl ?_
 refine zS ?_
 refine o_m2 (.t (.view 0 0 78 4 p0.length)) (.t (.view 0 0 78 4 p0.length)) rfl ?_
 refine o_of (e := [(6, .i (p0.length : Int))]) (g0 rfl) (h_lln mR rfl rfl rfl rfl rfl rfl) rfl ?_
 refine o_1 (.t (.d (.clo F1 C1))) rfl ?_
 obtain ⟨x1, h2, h⟩ := bind_some h
 refine o_of (e := [((OB + 0), .box (fl (dT zI) x1)), (8, .tup [])]) (g0 rfl) (qL mR rfl (σ := [0]) (fr := []) rfl rfl rfl rfl rfl rfl rfl (zCX _ _ F1 C1 _ hp1 hf1 w0 _ h2) (zD _) rfl (by simp [A.flatO, zP]) (by simp [A.flatO, zP]) rfl (.cons (argVw rfl rfl rfl) (.cons (.plain .r rfl) (.cons (.plain .r rfl) .nil))) rfl (.tup .nil)) rfl ?_
 obtain ⟨x3, h4, h⟩ := bind_some h
 have h4 : x1.length = p0.length := zAu h4
 refine zB ?_
 obtain rfl := Option.some.inj h
 exact ⟨⟨_, rfl, .r⟩, ⟨rfl, trivial⟩, rfl⟩
theorem zDX (p0 : (List UInt8)) (r : Bool) (h : zBm p0 = some r) : FC Try.prog 127 [.t (.d (.lit (.string ⟨⟨p0⟩⟩)))] [] (.t (.d (.lit (.bool r)))) := by
 refine zDl (rs := [.tmp 2]) (n := 6) Try.func127 rfl rfl (Nat.le_of_ble_eq_true rfl) rfl (pins := []) rfl (L := [(0, .s p0)]) rfl ?_
 refine c_sr ?_
 refine o_1 (.b false) rfl ?_
 refine zB (c_sr ?_)
 refine o_m2 (.s p0) (.s p0) rfl ?_
 refine o_c (g0 rfl) rfl rfl rfl (congrArg (fun z => A.b (!z)) (zFW _ _)) trivial ?_
 refine o_1 (.b (!(p0 == p0))) rfl ?_
 refine zB (zJ ?_)
 obtain rfl := Option.some.inj h
 exact end0 rfl .r
theorem zEo (p0 : (List UInt8)) (p1 : (List UInt8)) (r : Int) (h : zB9 p0 p1 = some r) : FC Try.prog 105 [.t (.d (.lit (.string ⟨⟨p0⟩⟩))), .t (.d (.lit (.string ⟨⟨p1⟩⟩)))] [] (.t (.d (.lit (.int .i64 r)))) := by
 refine zDl (rs := [.tmp 4]) (n := 20) Try.func105 rfl rfl (Nat.le_of_ble_eq_true rfl) rfl (pins := []) rfl (L := [(0, .s p0), (1, .s p1)]) rfl ?_
 refine c_sr ?_
 refine o_1 (.i 0) rfl ?_
 refine zB (c_sr ?_)
 refine o_1 (.s p0) rfl ?_
 obtain ⟨x1, h2, h⟩ := bind_some h
 refine o_ca (zDX _ _ h2) (g0 rfl) rfl rfl rfl rfl rfl rfl rfl (.cons .r .nil) rfl rfl ?_
 refine o_1 (.b x1) rfl ?_
 refine zB (c_sr ?_)
 refine o_1 (.s p1) rfl ?_
 obtain ⟨x3, h4, h⟩ := bind_some h
 refine o_ca (zDX _ _ h4) (g0 rfl) rfl rfl rfl rfl rfl rfl rfl (.cons .r .nil) rfl rfl ?_
 refine o_1 (.b x3) rfl ?_
 refine zB (zL (c_sr ?_))
 refine o_1 (.b x1) rfl ?_
 refine zB ?_
 rcases zF h with ⟨h5, h⟩ | ⟨h5, h⟩
 ·
  refine c_t h5 rfl ?_
  refine zL (c_sr ?_)
  refine o_1 (.b x3) rfl ?_
  refine zB ?_
  rcases zF h with ⟨h6, h⟩ | ⟨h6, h⟩
  ·
   refine c_t h6 rfl ?_
   refine c_sr ?_
   refine o_1 (.i 0) rfl ?_
   refine zB (zJ ?_)
   obtain rfl := Option.some.inj h
   exact end0 rfl .r
  refine c_f h6 rfl ?_
  refine zK (c_sr ?_)
  refine o_1 (.i (-1)) rfl ?_
  refine zB (zJ ?_)
  obtain rfl := Option.some.inj h
  exact end0 rfl .r
 refine c_f h5 rfl ?_
 refine zK (zL (c_sr ?_))
 refine o_1 (.b x3) rfl ?_
 refine zB ?_
 rcases zF h with ⟨h7, h⟩ | ⟨h7, h⟩
 ·
  refine c_t h7 rfl ?_
  refine c_sr ?_
  refine o_1 (.i 1) rfl ?_
  refine zB (zJ ?_)
  obtain rfl := Option.some.inj h
  exact end0 rfl .r
 refine c_f h7 rfl ?_
 refine zK (zL (c_sr ?_))
 refine o_m2 (.s p0) (.s p1) rfl ?_
 refine o_c (g0 rfl) rfl rfl rfl (congrArg (fun z => A.b z) (s_lt _ _)) trivial ?_
 refine zB ?_
 rcases zF h with ⟨h8, h⟩ | ⟨h8, h⟩
 ·
  refine c_t h8 rfl ?_
  refine c_sr ?_
  refine o_1 (.i (-1)) rfl ?_
  refine zB (zJ ?_)
  obtain rfl := Option.some.inj h
  exact end0 rfl .r
 refine c_f h8 rfl ?_
 refine zK (zL (c_sr ?_))
 refine o_m2 (.s p0) (.s p1) rfl ?_
 refine o_c (g0 rfl) rfl rfl rfl (congrArg (fun z => A.b z) (s_gt _ _)) trivial ?_
 refine zB ?_
 rcases zF h with ⟨h9, h⟩ | ⟨h9, h⟩
 ·
  refine c_t h9 rfl ?_
  refine c_sr ?_
  refine o_1 (.i 1) rfl ?_
  refine zB (zJ ?_)
  obtain rfl := Option.some.inj h
  exact end0 rfl .r
 refine c_f h9 rfl ?_
 refine zK (c_sr ?_)
 refine o_1 (.i 0) rfl ?_
 refine zB (zJ ?_)
 obtain rfl := Option.some.inj h
 exact end0 rfl .r
theorem zEl (p0 : zA) (p1 : zA) (r : Int) (h : qP p0 p1 = some r) : FC Try.prog 104 [.t (.agg [.lit (.string ⟨⟨p0.Key⟩⟩), .lit (.int .i64 p0.Version), .lit (.int .i64 p0.Len), .lit (.int .i64 p0.First)]), .t (.agg [.lit (.string ⟨⟨p1.Key⟩⟩), .lit (.int .i64 p1.Version), .lit (.int .i64 p1.Len), .lit (.int .i64 p1.First)])] [] (.t (.d (.lit (.int .i64 r)))) := by
 refine zDl (rs := [.tmp 4]) (n := 10) Try.func104 rfl rfl (Nat.le_of_ble_eq_true rfl) rfl (pins := []) rfl (L := [(0, .t (.agg [.s p0.Key, .i p0.Version, .i p0.Len, .i p0.First])), (1, .t (.agg [.s p1.Key, .i p1.Version, .i p1.Len, .i p1.First]))]) rfl ?_
 refine c_sr ?_
 refine o_m3 (.box [.s p0.Key, .i p0.Version, .i p0.Len, .i p0.First]) (.box [.s p1.Key, .i p1.Version, .i p1.Len, .i p1.First]) (.i 0) rfl ?_
 refine zB (c_sr ?_)
 refine o_m4 (.ref 2 0) (.s p0.Key) (.ref 3 0) (.s p1.Key) rfl ?_
 obtain ⟨x1, h2, h⟩ := bind_some h
 refine o_ca (zEo _ _ _ h2) (g0 rfl) rfl rfl rfl rfl rfl rfl rfl (.cons .r (.cons .r .nil)) rfl rfl ?_
 refine o_1 (.i x1) rfl ?_
 refine zB (zJ ?_)
 obtain rfl := Option.some.inj h
 exact end0 rfl .r
end Go.Proofs.Ytjomnccladjpgaa

/-
 Slices that may grow and start anywhere in their block: cut, appended to.
-/
namespace Go.Proofs.Ytjomnccladjpgaa
open Go Go.RowKit
set_option linter.unusedVariables false
end Go.Proofs.Ytjomnccladjpgaa

/-
 Arrays: read and written at a place that a variable tells.
-/
namespace Go.Proofs.Ytjomnccladjpgaa
open Go Go.RowKit
set_option linter.unusedVariables false
end Go.Proofs.Ytjomnccladjpgaa

/-
 Calls that only look at what they are handed, and whose answer is a slice of their own; operations on slices that may start anywhere, on objects of the heap.
-/
namespace Go.Proofs.Ytjomnccladjpgaa
open Go Go.RowKit
set_option linter.unusedVariables false
section
variable {w0 : World} {m0 : Mem} {o0 : OwnM} {G : GD} {pins : List Nat} {S M : Nat → A} {a : Act} {w : World} {m : Mem} {o : OwnM} {P : Program}
variable {N : Nat} {op : Oper} {d s : Nat} {f f' : Nat → A} {c : Nat}
theorem h_newW (hk : S HK = .hp f) {E : Nat} {i : TypeInfo} {z : Value} {l l' : List T} (hop : op.op = .alloc E) (hi : P.info? E = some i) (hz : i.zero = some z) (hl : zEL (litA z) = some l) (hw : WkTs l l') (ha : l'.all (fun x => !x.isAgg) = true) (hd : op.dst = some d) (hok : okD N pins S d = true) (hf : f c = .free) (hf' : f' = updF f c (.box l')) : OpH P pins N op S (app S [(HK, .hp f'), (d, .t (.hpt c 0))]) :=
 h_mk hk hf' hok fun hN hlo => (ok_hnew hop hi hz hl hd (qX hN hok) (qN hN hok) (zIq hlo hk hf)).post fun w0 m0 o0 G a w m o I => by
  have hdO := qN hN hok
  have hne : OB + (OB + c) ≠ d := by omega
  have I : Inv w0 m0 o0 G pins (upd (upd (hx S) (OB + (OB + c)) (.box l)) d (.t (.hpt c 0))) a w m o := I
  show Inv w0 m0 o0 G pins (upd (upd (hx S) (OB + (OB + c)) (.box l')) d (.t (.hpt c 0))) a w m o
  rw [zDi hne] at I ⊢
  exact I.wkbox hw ha
end
end Go.Proofs.Ytjomnccladjpgaa
