/-
 Walks of functions: each function does what its model tells. Printed by a program of this claim's own (gen.py) off the given translation.
-/
import Derived.Test.YtmgafkpkpmjieaaDoorM08
import Derived.Test.YtmgafkpkpmjieaaDoorM12
import Derived.Test.YtmgafkpkpmjieaaDoorM15
set_option linter.unusedVariables false
set_option linter.unusedSimpArgs false
namespace Go.Proofs.YtmgafkpkpmjieaaDoor
open Go Go.RowKit
set_option linter.unusedVariables false
set_option maxHeartbeats 4000000
set_option maxRecDepth 20000
theorem zFo (p0 : zB) (r : Bool) (h : zBP p0 = some r) : FC Tryd.prog 15 [.t (.agg [.lit (.int .i64 p0.Kind), .lit (.int .i64 p0.C.Kind), .lit (.string ⟨⟨p0.C.User⟩⟩), .lit (.string ⟨⟨p0.C.Folder⟩⟩), .lit (.string ⟨⟨p0.C.Name⟩⟩), .lit (.string ⟨⟨p0.C.Other⟩⟩), .lit (.int .i64 p0.C.Role), .lit (.int .i64 p0.C.Version), .seq 1 (zD p0.C.Data), .lit (.int .i64 p0.At), .lit (.int .i64 p0.O.Fuse), .seq 1 (zD p0.O.Choices), .lit (.int .i64 p0.O.Again), .seq 1 (zD p0.O.More), .lit (.string ⟨⟨p0.Key⟩⟩), .lit (.string ⟨⟨p0.With⟩⟩), .seq 1 (zD p0.B)])] [] (.t (.d (.lit (.bool r)))) := by
 refine zAO (rs := [.tmp 2]) (n := 159) Tryd.func15 rfl rfl (Nat.le_of_ble_eq_true rfl) rfl (pins := []) rfl (L := [(0, .t (.agg [.i p0.Kind, .i p0.C.Kind, .s p0.C.User, .s p0.C.Folder, .s p0.C.Name, .s p0.C.Other, .i p0.C.Role, .i p0.C.Version, .y p0.C.Data, .i p0.At, .i p0.O.Fuse, .y p0.O.Choices, .i p0.O.Again, .y p0.O.More, .s p0.Key, .s p0.With, .y p0.B]))]) rfl (c_sr (o_m2 (.box [.i p0.Kind, .i p0.C.Kind, .s p0.C.User, .s p0.C.Folder, .s p0.C.Name, .s p0.C.Other, .i p0.C.Role, .i p0.C.Version, .y p0.C.Data, .i p0.At, .i p0.O.Fuse, .y p0.O.Choices, .i p0.O.Again, .y p0.O.More, .s p0.Key, .s p0.With, .y p0.B]) (.b false) rfl (zA (c_sr (o_m3 (.ref 1 0) (.i p0.Kind) (.i p0.Kind) rfl (zA (zM (c_sr (o_m3 (.i p0.Kind) (.b (decide (p0.Kind < 1))) (.b (decide (p0.Kind < 1))) rfl ?_)))))))))
 rcases zE h with ⟨h1, h⟩ | ⟨h1, h⟩
 ·
  refine o_k2 rfl h1 (o_pT (.b true) h1 rfl (zA (c_t rfl rfl (c_sr (o_1 (.b false) rfl (zA (zH ?_)))))))
  cases h
  exact end0 rfl .r
 refine o_s (.i p0.Kind) (gy rfl rfl rfl h1) rfl rfl rfl (o_s (.b (decide (p0.Kind > 8))) (gy rfl rfl rfl h1) rfl rfl rfl (o_pF (.b (decide (p0.Kind > 8))) h1 rfl (zA (c_if h rfl (fun h2 h => c_sr (o_1 (.b false) rfl (zA (zH ?_)))) fun h2 h => zK ?_))))
 ·
  cases h
  exact end0 rfl .r
 refine zX r (fun (_ : Unit) => [(1, .box [.i p0.Kind, .i p0.C.Kind, .s p0.C.User, .s p0.C.Folder, .s p0.C.Name, .s p0.C.Other, .i p0.C.Role, .i p0.C.Version, .y p0.C.Data, .i p0.At, .i p0.O.Fuse, .y p0.O.Choices, .i p0.O.Again, .y p0.O.More, .s p0.Key, .s p0.With, .y p0.B]), (3, .i p0.Kind)]) (fun _ => zAj p0) ?_ ?_
 ·
  refine c_sr (o_m2 (.i p0.Kind) (.b (decide (p0.Kind ≤ 2))) rfl (zA (c_if h rfl (fun h38 h => c_sr (o_m2 (.ref 1 1) (.t (.agg [.i p0.C.Kind, .s p0.C.User, .s p0.C.Folder, .s p0.C.Name, .s p0.C.Other, .i p0.C.Role, .i p0.C.Version, .y p0.C.Data])) rfl ?_)) fun h38 h => c_sr (o_m3 (.ref 1 1) (.t (.agg [.i p0.C.Kind, .s p0.C.User, .s p0.C.Folder, .s p0.C.Name, .s p0.C.Other, .i p0.C.Role, .i p0.C.Version, .y p0.C.Data])) (.t (.agg [.i 0, .s [], .s [], .s [], .s [], .i 0, .i 0, .n])) rfl ?_))))
  ·
   refine bi h fun x39 h40 h => o_cA (zIh _ _ h40) (g0 rfl) rfl (.cons .r .nil) rfl (o_1 (.b (!x39)) rfl (zA (c_if h rfl (fun h41 h => c_sr (o_1 (.b false) rfl (zA (zH ?_)))) fun h41 h => zK ?_)))
   ·
    cases h
    exact end0 rfl .r
   exact lE () h rfl rfl
  refine bi h fun x42 h43 h => o_cA (zEW _ _ _ h43) (g0 rfl) rfl (.cons .r (.cons (.t (.agg (.cons .r (.cons .r (.cons .r (.cons .r (.cons .r (.cons .r (.cons .r (.cons (.nil _) .nil)))))))))) .nil)) rfl (o_1 (.b (!x42)) rfl (zA (c_if h rfl (fun h44 h => c_sr (o_1 (.b false) rfl (zA (zH ?_)))) fun h44 h => zK ?_)))
  ·
   cases h
   exact end0 rfl .r
  exact lE () h rfl rfl
 rintro ⟨⟩ h
 refine c_sr (o_1 (.i 0) rfl (zA (zX r (fun (y3 : Int) => [(1, .box [.i p0.Kind, .i p0.C.Kind, .s p0.C.User, .s p0.C.Folder, .s p0.C.Name, .s p0.C.Other, .i p0.C.Role, .i p0.C.Version, .y p0.C.Data, .i p0.At, .i p0.O.Fuse, .y p0.O.Choices, .i p0.O.Again, .y p0.O.More, .s p0.Key, .s p0.With, .y p0.B]), (3, .i p0.Kind), (4, .i y3)]) (fun y3 => zAX p0 y3) ?_ ?_)))
 ·
  refine c_sr (o_m2 (.i p0.Kind) (.b (p0.Kind == 3)) rfl (zA (c_if h rfl (fun h37 h => zG (o_1 (.i 1) rfl (zA ?_))) fun h37 h => zK ?_)))
  ·
   exact lE 1 h rfl rfl
  exact lE 0 h rfl rfl
 rintro y3 h
 refine zX r (fun (_ : Unit) => [(1, .box [.i p0.Kind, .i p0.C.Kind, .s p0.C.User, .s p0.C.Folder, .s p0.C.Name, .s p0.C.Other, .i p0.C.Role, .i p0.C.Version, .y p0.C.Data, .i p0.At, .i p0.O.Fuse, .y p0.O.Choices, .i p0.O.Again, .y p0.O.More, .s p0.Key, .s p0.With, .y p0.B]), (3, .i p0.Kind)]) (fun _ => zAf p0) ?_ ?_
 ·
  refine zX r (fun (y31 : Bool) => [(1, .box [.i p0.Kind, .i p0.C.Kind, .s p0.C.User, .s p0.C.Folder, .s p0.C.Name, .s p0.C.Other, .i p0.C.Role, .i p0.C.Version, .y p0.C.Data, .i p0.At, .i p0.O.Fuse, .y p0.O.Choices, .i p0.O.Again, .y p0.O.More, .s p0.Key, .s p0.With, .y p0.B]), (3, .i p0.Kind), (4, .i y3), (32, .b y31)]) (fun y31 => zAd p0 y3 y31) ?_ ?_
  ·
   refine zG (o_m3 (.i p0.Kind) (.b (p0.Kind == 3)) (.b (p0.Kind == 3)) rfl ?_)
   rcases zE h with ⟨h36, h⟩ | ⟨h36, h⟩
   ·
    refine o_k2 rfl h36 (o_pT (.b true) h36 rfl (zA ?_))
    exact lE true h rfl rfl
   refine o_s (.i p0.Kind) (gy rfl rfl rfl h36) rfl rfl rfl (o_s (.b (p0.Kind == 7)) (gy rfl rfl rfl h36) rfl rfl rfl (o_pF (.b (p0.Kind == 7)) h36 rfl (zA ?_)))
   exact lE (p0.Kind == 7) h rfl rfl
  rintro y31 h
  refine c_if h rfl (fun h32 h => c_sr (o_m5 (.ref 1 9) (.i p0.At) (.i y3) (.b (decide (p0.At < y3))) (.b (decide (p0.At < y3))) rfl ?_)) fun h32 h => c_sr (o_m3 (.ref 1 9) (.i p0.At) (.b (p0.At != 0)) rfl (zA ?_))
  ·
   rcases zE h with ⟨h33, h⟩ | ⟨h33, h⟩
   ·
    refine o_k3 rfl h33 (o_pT (.b true) h33 rfl (zA (c_t rfl rfl (c_sr (o_1 (.b false) rfl (zA (zH ?_)))))))
    cases h
    exact end0 rfl .r
   refine o_s (.ref 1 9) (gy rfl rfl rfl h33) rfl rfl rfl (o_s (.i p0.At) (gy rfl rfl rfl h33) rfl rfl rfl (o_s (.b (decide (p0.At > 4096))) (gy rfl rfl rfl h33) rfl rfl rfl (o_pF (.b (decide (p0.At > 4096))) h33 rfl (zA (c_if h rfl (fun h34 h => c_sr (o_1 (.b false) rfl (zA (zH ?_)))) fun h34 h => zK ?_)))))
   ·
    cases h
    exact end0 rfl .r
   exact lE () h rfl rfl
  refine c_if h rfl (fun h35 h => c_sr (o_1 (.b false) rfl (zA (zH ?_)))) fun h35 h => zK ?_
  ·
   cases h
   exact end0 rfl .r
  exact lE () h rfl rfl
 rintro ⟨⟩ h
 refine c_sr (o_m3 (.ref 1 10) (.t (.agg [.i p0.O.Fuse, .y p0.O.Choices, .i p0.O.Again, .y p0.O.More])) (.box [.i 0, .n, .i 0, .n]) rfl (o_st (.box [.i p0.O.Fuse, .y p0.O.Choices, .i p0.O.Again, .y p0.O.More]) (g0 rfl) rfl rfl rfl (zA (zX r (fun (_ : Unit) => [(1, .box [.i p0.Kind, .i p0.C.Kind, .s p0.C.User, .s p0.C.Folder, .s p0.C.Name, .s p0.C.Other, .i p0.C.Role, .i p0.C.Version, .y p0.C.Data, .i p0.At, .i p0.O.Fuse, .y p0.O.Choices, .i p0.O.Again, .y p0.O.More, .s p0.Key, .s p0.With, .y p0.B]), (3, .i p0.Kind)]) (fun _ => zAb p0) ?_ ?_))))
 ·
  refine c_sr (o_m2 (.i p0.Kind) (.b (p0.Kind == 4)) rfl (zA (c_if h rfl (fun h20 h => c_sr (o_m4 (.ref 5 0) (.i p0.O.Fuse) (.b (decide (p0.O.Fuse < (-1)))) (.b (decide (p0.O.Fuse < (-1)))) rfl ?_)) fun h20 h => c_sr (o_m4 (.ref 5 0) (.i p0.O.Fuse) (.b (p0.O.Fuse != 0)) (.b (p0.O.Fuse != 0)) rfl ?_))))
  ·
   rcases zE h with ⟨h21, h⟩ | ⟨h21, h⟩
   ·
    refine o_k3 rfl h21 (o_pT (.b true) h21 rfl (o_1 (.b true) rfl (o_k3 rfl rfl (o_pT (.b true) rfl rfl (o_1 (.b true) rfl (o_k3 rfl rfl (o_pT (.b true) rfl rfl (o_1 (.b true) rfl (o_k4 rfl rfl ?_)))))))))
    refine o_pT (.b true) rfl rfl (o_1 (.b true) rfl (o_k4 rfl rfl (o_pT (.b true) rfl rfl (zA (c_t rfl rfl (c_sr (o_1 (.b false) rfl (zA (zH ?_)))))))))
    cases h
    exact end0 rfl .r
   refine o_s (.ref 5 0) (gy rfl rfl rfl h21) rfl rfl rfl (o_s (.i p0.O.Fuse) (gy rfl rfl rfl h21) rfl rfl rfl (o_s (.b (decide (p0.O.Fuse > 1073741824))) (gy rfl rfl rfl h21) rfl rfl rfl (o_pF (.b (decide (p0.O.Fuse > 1073741824))) h21 rfl (o_1 (.b (decide (p0.O.Fuse > 1073741824))) rfl ?_))))
   rcases zE h with ⟨h22, h⟩ | ⟨h22, h⟩
   ·
    refine o_k3 rfl h22 (o_pT (.b true) h22 rfl (o_1 (.b true) rfl (o_k3 rfl rfl (o_pT (.b true) rfl rfl (o_1 (.b true) rfl (o_k4 rfl rfl (o_pT (.b true) rfl rfl (o_1 (.b true) rfl (o_k4 rfl rfl ?_)))))))))
    refine o_pT (.b true) rfl rfl (zA (c_t rfl rfl (c_sr (o_1 (.b false) rfl (zA (zH ?_))))))
    cases h
    exact end0 rfl .r
   refine o_s (.ref 5 2) (gy rfl rfl rfl h22) rfl rfl rfl (o_s (.i p0.O.Again) (gy rfl rfl rfl h22) rfl rfl rfl (o_s (.b (decide (p0.O.Again < (-1)))) (gy rfl rfl rfl h22) rfl rfl rfl (o_pF (.b (decide (p0.O.Again < (-1)))) h22 rfl (o_1 (.b (decide (p0.O.Again < (-1)))) rfl ?_))))
   rcases zE h with ⟨h23, h⟩ | ⟨h23, h⟩
   ·
    refine o_k3 rfl h23 (o_pT (.b true) h23 rfl (o_1 (.b true) rfl (o_k4 rfl rfl (o_pT (.b true) rfl rfl (o_1 (.b true) rfl (o_k4 rfl rfl (o_pT (.b true) rfl rfl (zA ?_))))))))
    refine c_t rfl rfl (c_sr (o_1 (.b false) rfl (zA (zH ?_))))
    cases h
    exact end0 rfl .r
   refine o_s (.ref 5 2) (gy rfl rfl rfl h23) rfl rfl rfl (o_s (.i p0.O.Again) (gy rfl rfl rfl h23) rfl rfl rfl (o_s (.b (decide (p0.O.Again > 1073741824))) (gy rfl rfl rfl h23) rfl rfl rfl (o_pF (.b (decide (p0.O.Again > 1073741824))) h23 rfl (o_1 (.b (decide (p0.O.Again > 1073741824))) rfl ?_))))
   rcases zE h with ⟨h24, h⟩ | ⟨h24, h⟩
   ·
    refine o_k4 rfl h24 (o_pT (.b true) h24 rfl (o_1 (.b true) rfl (o_k4 rfl rfl (o_pT (.b true) rfl rfl (zA (c_t rfl rfl (c_sr (o_1 (.b false) rfl (zA (zH ?_))))))))))
    cases h
    exact end0 rfl .r
   refine o_s (.ref 5 1) (gy rfl rfl rfl h24) rfl rfl rfl (o_s (.y p0.O.Choices) (gy rfl rfl rfl h24) rfl rfl rfl (o_c (gy rfl rfl rfl h24) rfl rfl rfl (lenE _ _) trivial (o_s (.b (decide ((p0.O.Choices.length : Int) > 4096))) (gy rfl rfl rfl h24) rfl rfl rfl (o_pF (.b (decide ((p0.O.Choices.length : Int) > 4096))) h24 rfl (o_1 (.b (decide ((p0.O.Choices.length : Int) > 4096))) rfl ?_)))))
   rcases zE h with ⟨h25, h⟩ | ⟨h25, h⟩
   ·
    refine o_k4 rfl h25 (o_pT (.b true) h25 rfl (zA (c_t rfl rfl (c_sr (o_1 (.b false) rfl (zA (zH ?_)))))))
    cases h
    exact end0 rfl .r
   refine o_s (.ref 5 3) (gy rfl rfl rfl h25) rfl rfl rfl (o_s (.y p0.O.More) (gy rfl rfl rfl h25) rfl rfl rfl (o_c (gy rfl rfl rfl h25) rfl rfl rfl (lenE _ _) trivial (o_s (.b (decide ((p0.O.More.length : Int) > 4096))) (gy rfl rfl rfl h25) rfl rfl rfl (o_pF (.b (decide ((p0.O.More.length : Int) > 4096))) h25 rfl (zA ?_)))))
   refine c_if h rfl (fun h26 h => c_sr (o_1 (.b false) rfl (zA (zH ?_)))) fun h26 h => zK ?_
   ·
    cases h
    exact end0 rfl .r
   exact lE () h rfl rfl
  rcases zE h with ⟨h27, h⟩ | ⟨h27, h⟩
  ·
   refine o_k3 rfl h27 (o_pT (.b true) h27 rfl (o_1 (.b true) rfl (o_k4 rfl rfl (o_pT (.b true) rfl rfl (o_1 (.b true) rfl (o_k4 rfl rfl (o_pT (.b true) rfl rfl (zA ?_))))))))
   refine c_t rfl rfl (c_sr (o_1 (.b false) rfl (zA (zH ?_))))
   cases h
   exact end0 rfl .r
  refine o_s (.ref 5 2) (gy rfl rfl rfl h27) rfl rfl rfl (o_s (.i p0.O.Again) (gy rfl rfl rfl h27) rfl rfl rfl (o_s (.b (p0.O.Again != 0)) (gy rfl rfl rfl h27) rfl rfl rfl (o_pF (.b (p0.O.Again != 0)) h27 rfl (o_1 (.b (p0.O.Again != 0)) rfl ?_))))
  rcases zE h with ⟨h28, h⟩ | ⟨h28, h⟩
  ·
   refine o_k4 rfl h28 (o_pT (.b true) h28 rfl (o_1 (.b true) rfl (o_k4 rfl rfl (o_pT (.b true) rfl rfl (zA (c_t rfl rfl (c_sr (o_1 (.b false) rfl (zA (zH ?_))))))))))
   cases h
   exact end0 rfl .r
  refine o_s (.ref 5 1) (gy rfl rfl rfl h28) rfl rfl rfl (o_s (.y p0.O.Choices) (gy rfl rfl rfl h28) rfl rfl rfl (o_c (gy rfl rfl rfl h28) rfl rfl rfl (lenE _ _) trivial (o_s (.b (decide ((p0.O.Choices.length : Int) > 0))) (gy rfl rfl rfl h28) rfl rfl rfl (o_pF (.b (decide ((p0.O.Choices.length : Int) > 0))) h28 rfl (o_1 (.b (decide ((p0.O.Choices.length : Int) > 0))) rfl ?_)))))
  rcases zE h with ⟨h29, h⟩ | ⟨h29, h⟩
  ·
   refine o_k4 rfl h29 (o_pT (.b true) h29 rfl (zA (c_t rfl rfl (c_sr (o_1 (.b false) rfl (zA (zH ?_)))))))
   cases h
   exact end0 rfl .r
  refine o_s (.ref 5 3) (gy rfl rfl rfl h29) rfl rfl rfl (o_s (.y p0.O.More) (gy rfl rfl rfl h29) rfl rfl rfl (o_c (gy rfl rfl rfl h29) rfl rfl rfl (lenE _ _) trivial (o_s (.b (decide ((p0.O.More.length : Int) > 0))) (gy rfl rfl rfl h29) rfl rfl rfl (o_pF (.b (decide ((p0.O.More.length : Int) > 0))) h29 rfl (zA ?_)))))
  refine c_if h rfl (fun h30 h => c_sr (o_1 (.b false) rfl (zA (zH ?_)))) fun h30 h => zK ?_
  ·
   cases h
   exact end0 rfl .r
  exact lE () h rfl rfl
 rintro ⟨⟩ h
 refine zX r (fun (_ : Unit) => [(1, .box [.i p0.Kind, .i p0.C.Kind, .s p0.C.User, .s p0.C.Folder, .s p0.C.Name, .s p0.C.Other, .i p0.C.Role, .i p0.C.Version, .y p0.C.Data, .i p0.At, .i p0.O.Fuse, .y p0.O.Choices, .i p0.O.Again, .y p0.O.More, .s p0.Key, .s p0.With, .y p0.B]), (3, .i p0.Kind)]) (fun _ => zAB p0) ?_ ?_
 ·
  refine c_sr (o_m3 (.i p0.Kind) (.b (decide (p0.Kind ≥ 5))) (.b (decide (p0.Kind ≥ 5))) rfl ?_)
  rcases zE h with ⟨h13, h⟩ | ⟨h13, h⟩
  ·
   refine o_s (.ref 1 14) (gy rfl rfl rfl h13) rfl rfl rfl (o_s (.s p0.Key) (gy rfl rfl rfl h13) rfl rfl rfl (o_s (.i (p0.Key.length : Int)) (gy rfl rfl rfl h13) rfl rfl rfl (o_s (.b (decide ((p0.Key.length : Int) < 1))) (gy rfl rfl rfl h13) rfl rfl rfl (o_s (.b (decide ((p0.Key.length : Int) < 1))) (gy rfl rfl rfl h13) rfl rfl rfl ?_))))
   rcases zE h with ⟨h14, h⟩ | ⟨h14, h⟩
   ·
    refine o_k4 rfl h14 (o_pk (.b true) (b := true) h14 (gy rfl rfl rfl h13) rfl rfl rfl rfl rfl (o_pT (.b true) h13 rfl (o_1 (.b true) rfl (o_k3 rfl rfl ?_))))
    refine o_un rfl rfl rfl rfl rfl (o_un rfl rfl rfl rfl rfl (o_un rfl rfl rfl rfl rfl (o_k1 rfl rfl (o_pT (.b true) rfl rfl (zA (c_t rfl rfl (c_sr (o_1 (.b false) rfl (zA (zH ?_))))))))))
    cases h
    exact end0 rfl .r
   refine o_s (.ref 1 14) (gy rfl rfl rfl h14) rfl rfl rfl (o_s (.s p0.Key) (gy rfl rfl rfl h14) rfl rfl rfl (o_s (.i (p0.Key.length : Int)) (gy rfl rfl rfl h14) rfl rfl rfl (o_s (.b (decide ((p0.Key.length : Int) > 40))) (gy rfl rfl rfl h14) rfl rfl rfl (o_pk (.b (decide ((p0.Key.length : Int) > 40))) (b := false) h14 (gy rfl rfl rfl h13) rfl rfl rfl rfl rfl (o_pT (.b (decide ((p0.Key.length : Int) > 40))) h13 rfl (o_1 (.b (decide ((p0.Key.length : Int) > 40))) rfl ?_))))))
   rcases zE h with ⟨h15, h⟩ | ⟨h15, h⟩
   ·
    refine o_k3 rfl h15 (o_un rfl rfl rfl rfl rfl (o_un rfl rfl rfl rfl rfl (o_un rfl rfl rfl rfl rfl (o_k1 rfl h15 (o_pT (.b true) h15 rfl ?_)))))
    refine zA (c_t rfl rfl (c_sr (o_1 (.b false) rfl (zA (zH ?_)))))
    cases h
    exact end0 rfl .r
   refine o_s (.i p0.Kind) (gy rfl rfl rfl h15) rfl rfl rfl (o_s (.b (decide (p0.Kind < 5))) (gy rfl rfl rfl h15) rfl rfl rfl (o_s (.b (decide (p0.Kind < 5))) (gy rfl rfl rfl h15) rfl rfl rfl ?_))
   rcases zE h with ⟨h16, h⟩ | ⟨h16, h⟩
   ·
    refine o_s (.ref 1 14) (gy rfl rfl rfl h16) rfl rfl rfl (o_s (.s p0.Key) (gy rfl rfl rfl h16) rfl rfl rfl (o_c (gy rfl rfl rfl h16) rfl rfl rfl (congrArg (fun z => A.b (!z)) (qP _ _)) trivial (o_pk (.b (!(p0.Key == []))) (b := true) h16 (gy rfl rfl rfl h15) rfl rfl rfl rfl rfl (o_pF (.b (!(p0.Key == []))) h15 rfl (zA ?_)))))
    refine c_if h rfl (fun h17 h => c_sr (o_1 (.b false) rfl (zA (zH ?_)))) fun h17 h => zK ?_
    ·
     cases h
     exact end0 rfl .r
    exact lE () h rfl rfl
   refine o_k3 rfl h16 (o_pk (.b false) (b := false) h16 (gy rfl rfl rfl h15) rfl rfl rfl rfl rfl (o_pF (.b false) h15 rfl (zA (c_f rfl rfl (zK ?_)))))
   exact lE () h rfl rfl
  refine o_k4 rfl h13 (o_k1 rfl h13 (o_un rfl rfl rfl rfl rfl (o_un rfl rfl rfl rfl rfl (o_un rfl rfl rfl rfl rfl ?_))))
  refine o_un rfl rfl rfl rfl rfl (o_k1 rfl h13 (o_pF (.b false) h13 rfl (o_1 (.b false) rfl (o_s (.i p0.Kind) (gy rfl rfl rfl rfl) rfl rfl rfl (o_s (.b (decide (p0.Kind < 5))) (gy rfl rfl rfl rfl) rfl rfl rfl (o_s (.b (decide (p0.Kind < 5))) (gy rfl rfl rfl rfl) rfl rfl rfl ?_))))))
  rcases zE h with ⟨h18, h⟩ | ⟨h18, h⟩
  ·
   refine o_s (.ref 1 14) (gy rfl rfl rfl h18) rfl rfl rfl (o_s (.s p0.Key) (gy rfl rfl rfl h18) rfl rfl rfl (o_c (gy rfl rfl rfl h18) rfl rfl rfl (congrArg (fun z => A.b (!z)) (qP _ _)) trivial (o_pk (.b (!(p0.Key == []))) (b := true) h18 (gy rfl rfl rfl rfl) rfl rfl rfl rfl rfl (o_pF (.b (!(p0.Key == []))) rfl rfl (zA ?_)))))
   refine c_if h rfl (fun h19 h => c_sr (o_1 (.b false) rfl (zA (zH ?_)))) fun h19 h => zK ?_
   ·
    cases h
    exact end0 rfl .r
   exact lE () h rfl rfl
  refine o_k3 rfl h18 (o_pk (.b false) (b := false) h18 (gy rfl rfl rfl rfl) rfl rfl rfl rfl rfl (o_pF (.b false) rfl rfl (zA (c_f rfl rfl (zK ?_)))))
  exact lE () h rfl rfl
 rintro ⟨⟩ h
 refine zX r (fun (_ : Unit) => [(1, .box [.i p0.Kind, .i p0.C.Kind, .s p0.C.User, .s p0.C.Folder, .s p0.C.Name, .s p0.C.Other, .i p0.C.Role, .i p0.C.Version, .y p0.C.Data, .i p0.At, .i p0.O.Fuse, .y p0.O.Choices, .i p0.O.Again, .y p0.O.More, .s p0.Key, .s p0.With, .y p0.B]), (3, .i p0.Kind)]) (fun _ => zAA p0) ?_ ?_
 ·
  refine c_sr (o_m3 (.i p0.Kind) (.b (p0.Kind == 8)) (.b (p0.Kind == 8)) rfl ?_)
  rcases zE h with ⟨h6, h⟩ | ⟨h6, h⟩
  ·
   refine o_s (.ref 1 15) (gy rfl rfl rfl h6) rfl rfl rfl (o_s (.s p0.With) (gy rfl rfl rfl h6) rfl rfl rfl (o_s (.i (p0.With.length : Int)) (gy rfl rfl rfl h6) rfl rfl rfl (o_s (.b (decide ((p0.With.length : Int) < 1))) (gy rfl rfl rfl h6) rfl rfl rfl (o_s (.b (decide ((p0.With.length : Int) < 1))) (gy rfl rfl rfl h6) rfl rfl rfl ?_))))
   rcases zE h with ⟨h7, h⟩ | ⟨h7, h⟩
   ·
    refine o_k4 rfl h7 (o_pk (.b true) (b := true) h7 (gy rfl rfl rfl h6) rfl rfl rfl rfl rfl (o_pT (.b true) h6 rfl (o_1 (.b true) rfl (o_k3 rfl rfl ?_))))
    refine o_un rfl rfl rfl rfl rfl (o_un rfl rfl rfl rfl rfl (o_un rfl rfl rfl rfl rfl (o_k1 rfl rfl (o_pT (.b true) rfl rfl (zA (c_t rfl rfl (c_sr (o_1 (.b false) rfl (zA (zH ?_))))))))))
    cases h
    exact end0 rfl .r
   refine o_s (.ref 1 15) (gy rfl rfl rfl h7) rfl rfl rfl (o_s (.s p0.With) (gy rfl rfl rfl h7) rfl rfl rfl (o_s (.i (p0.With.length : Int)) (gy rfl rfl rfl h7) rfl rfl rfl (o_s (.b (decide ((p0.With.length : Int) > 40))) (gy rfl rfl rfl h7) rfl rfl rfl (o_pk (.b (decide ((p0.With.length : Int) > 40))) (b := false) h7 (gy rfl rfl rfl h6) rfl rfl rfl rfl rfl (o_pT (.b (decide ((p0.With.length : Int) > 40))) h6 rfl (o_1 (.b (decide ((p0.With.length : Int) > 40))) rfl ?_))))))
   rcases zE h with ⟨h8, h⟩ | ⟨h8, h⟩
   ·
    refine o_k3 rfl h8 (o_un rfl rfl rfl rfl rfl (o_un rfl rfl rfl rfl rfl (o_un rfl rfl rfl rfl rfl (o_k1 rfl h8 (o_pT (.b true) h8 rfl ?_)))))
    refine zA (c_t rfl rfl (c_sr (o_1 (.b false) rfl (zA (zH ?_)))))
    cases h
    exact end0 rfl .r
   refine o_s (.i p0.Kind) (gy rfl rfl rfl h8) rfl rfl rfl (o_s (.b (p0.Kind != 8)) (gy rfl rfl rfl h8) rfl rfl rfl (o_s (.b (p0.Kind != 8)) (gy rfl rfl rfl h8) rfl rfl rfl ?_))
   rcases zE h with ⟨h9, h⟩ | ⟨h9, h⟩
   ·
    refine o_s (.ref 1 15) (gy rfl rfl rfl h9) rfl rfl rfl (o_s (.s p0.With) (gy rfl rfl rfl h9) rfl rfl rfl (o_c (gy rfl rfl rfl h9) rfl rfl rfl (congrArg (fun z => A.b (!z)) (qP _ _)) trivial (o_pk (.b (!(p0.With == []))) (b := true) h9 (gy rfl rfl rfl h8) rfl rfl rfl rfl rfl (o_pF (.b (!(p0.With == []))) h8 rfl (zA ?_)))))
    refine c_if h rfl (fun h10 h => c_sr (o_1 (.b false) rfl (zA (zH ?_)))) fun h10 h => zK ?_
    ·
     cases h
     exact end0 rfl .r
    exact lE () h rfl rfl
   refine o_k3 rfl h9 (o_pk (.b false) (b := false) h9 (gy rfl rfl rfl h8) rfl rfl rfl rfl rfl (o_pF (.b false) h8 rfl (zA (c_f rfl rfl (zK ?_)))))
   exact lE () h rfl rfl
  refine o_k4 rfl h6 (o_k1 rfl h6 (o_un rfl rfl rfl rfl rfl (o_un rfl rfl rfl rfl rfl (o_un rfl rfl rfl rfl rfl ?_))))
  refine o_un rfl rfl rfl rfl rfl (o_k1 rfl h6 (o_pF (.b false) h6 rfl (o_1 (.b false) rfl (o_s (.i p0.Kind) (gy rfl rfl rfl rfl) rfl rfl rfl (o_s (.b (p0.Kind != 8)) (gy rfl rfl rfl rfl) rfl rfl rfl (o_s (.b (p0.Kind != 8)) (gy rfl rfl rfl rfl) rfl rfl rfl ?_))))))
  rcases zE h with ⟨h11, h⟩ | ⟨h11, h⟩
  ·
   refine o_s (.ref 1 15) (gy rfl rfl rfl h11) rfl rfl rfl (o_s (.s p0.With) (gy rfl rfl rfl h11) rfl rfl rfl (o_c (gy rfl rfl rfl h11) rfl rfl rfl (congrArg (fun z => A.b (!z)) (qP _ _)) trivial (o_pk (.b (!(p0.With == []))) (b := true) h11 (gy rfl rfl rfl rfl) rfl rfl rfl rfl rfl (o_pF (.b (!(p0.With == []))) rfl rfl (zA ?_)))))
   refine c_if h rfl (fun h12 h => c_sr (o_1 (.b false) rfl (zA (zH ?_)))) fun h12 h => zK ?_
   ·
    cases h
    exact end0 rfl .r
   exact lE () h rfl rfl
  refine o_k3 rfl h11 (o_pk (.b false) (b := false) h11 (gy rfl rfl rfl rfl) rfl rfl rfl rfl rfl (o_pF (.b false) rfl rfl (zA (c_f rfl rfl (zK ?_)))))
  exact lE () h rfl rfl
 rintro ⟨⟩ h
 refine c_sr (o_m2 (.ref 1 16) (.y p0.B) rfl (o_c (g0 rfl) rfl rfl rfl (lenE _ _) trivial (o_m2 (.b ((p0.B.length : Int) == 0)) (.b ((p0.B.length : Int) == 0)) rfl ?_)))
 rcases zE h with ⟨h4, h⟩ | ⟨h4, h⟩
 ·
  refine o_k3 rfl h4 (o_un rfl rfl rfl rfl rfl (o_un rfl rfl rfl rfl rfl (o_un rfl rfl rfl rfl rfl (o_un rfl rfl rfl rfl rfl (o_k1 rfl h4 (o_pT (.b true) h4 rfl (o_1 (.b true) rfl (zA (zH ?_)))))))))
  cases h
  exact end0 rfl .r
 refine o_s (.i p0.Kind) (gy rfl rfl rfl h4) rfl rfl rfl (o_s (.b (p0.Kind == 5)) (gy rfl rfl rfl h4) rfl rfl rfl (o_s (.b (p0.Kind == 5)) (gy rfl rfl rfl h4) rfl rfl rfl ?_))
 rcases zE h with ⟨h5, h⟩ | ⟨h5, h⟩
 ·
  refine o_s (.ref 1 16) (gy rfl rfl rfl h5) rfl rfl rfl (o_s (.y p0.B) (gy rfl rfl rfl h5) rfl rfl rfl (o_c (gy rfl rfl rfl h5) rfl rfl rfl (lenE _ _) trivial (o_s (.b (decide ((p0.B.length : Int) ≤ 1024))) (gy rfl rfl rfl h5) rfl rfl rfl (o_pk (.b (decide ((p0.B.length : Int) ≤ 1024))) (b := true) h5 (gy rfl rfl rfl h4) rfl rfl rfl rfl rfl (o_pF (.b (decide ((p0.B.length : Int) ≤ 1024))) h4 rfl (o_1 (.b (decide ((p0.B.length : Int) ≤ 1024))) rfl (zA (zH ?_))))))))
  cases h
  exact end0 rfl .r
 refine o_k4 rfl h5 (o_pk (.b false) (b := false) h5 (gy rfl rfl rfl h4) rfl rfl rfl rfl rfl (o_pF (.b false) h4 rfl (o_1 (.b false) rfl (zA (zH ?_)))))
 cases h
 exact end0 rfl .r
theorem zDA (p0 : (List zB)) (F1 : Nat) (C1 : List (List D)) (p1 : (zB → Option Bool)) (hp1 : ∀ (a0 : zB) r, p1 a0 = some r → FC Tryd.prog F1 ([.t (.agg [.lit (.int .i64 a0.Kind), .lit (.int .i64 a0.C.Kind), .lit (.string ⟨⟨a0.C.User⟩⟩), .lit (.string ⟨⟨a0.C.Folder⟩⟩), .lit (.string ⟨⟨a0.C.Name⟩⟩), .lit (.string ⟨⟨a0.C.Other⟩⟩), .lit (.int .i64 a0.C.Role), .lit (.int .i64 a0.C.Version), .seq 1 (zD a0.C.Data), .lit (.int .i64 a0.At), .lit (.int .i64 a0.O.Fuse), .seq 1 (zD a0.O.Choices), .lit (.int .i64 a0.O.Again), .seq 1 (zD a0.O.More), .lit (.string ⟨⟨a0.Key⟩⟩), .lit (.string ⟨⟨a0.With⟩⟩), .seq 1 (zD a0.B)])] ++ C1.map A.imm) [] (.t (.d (.lit (.bool r))))) (hf1 : ∃ fn, Tryd.prog.funcs[F1]? = some fn ∧ fn.body.isNone = false ∧ (fn.name == "runtime.NumGoroutine") = false) (r : Int) (h : zAh p0 p1 = some r) : FC Tryd.prog 40 [.t (.d (.seq 17 (List.map zF p0))), .t (.d (.clo F1 C1))] [] (.t (.d (.lit (.int .i64 r)))) := by
 refine zAO (rs := [.tmp 4]) (n := 19) Tryd.func40 rfl rfl (Nat.le_of_ble_eq_true rfl) rfl (pins := []) rfl (L := [(0, .t (.d (.seq 17 (List.map zF p0)))), (1, .t (.d (.clo F1 C1)))]) rfl (c_sr (o_1 (.i 0) rfl (zA (zM (c_sr (o_1 (.t (.d (.seq 17 (List.map zF p0)))) rfl (o_c (g0 rfl) rfl rfl rfl (lenE _ _) trivial (o_1 (.i 0) rfl (zA (zL (c_lp (fun (z1 : Int) => [(0, .t (.d (.seq 17 (List.map zF p0)))), (1, .t (.d (.clo F1 C1))), (7, .i (p0.length : Int)), (8, .i z1)]) (fun nl1 z1 => qH p0 p1 nl1 z1) (p0.length + 1) 0 h (fun _ => rfl) rfl rfl ?_)))))))))))
 rintro nl1 z1 h
 refine c_sr (o_1 (.b (decide (z1 < (p0.length : Int)))) rfl (zA (zM ?_)))
 refine c_if h rfl (fun h2 h => zK (zM (zL (c_sr (o_m2 (.i z1) (.i z1) rfl (zA (c_sr ?_))))))) fun h2 h => qU (c_sr (o_1 (.i (-1)) rfl (zA (zH ?_))))
 ·
  refine o_m3 (.t (.d (.clo F1 C1))) (.t (.d (.seq 17 (List.map zF p0)))) (.i z1) rfl (bi h fun x3 h4 h => o_c (g0 rfl) rfl rfl rfl (idxE h4) (idxC h4) (o_1 (.t (.agg [.i x3.Kind, .i x3.C.Kind, .s x3.C.User, .s x3.C.Folder, .s x3.C.Name, .s x3.C.Other, .i x3.C.Role, .i x3.C.Version, .y x3.C.Data, .i x3.At, .i x3.O.Fuse, .y x3.O.Choices, .i x3.O.Again, .y x3.O.More, .s x3.Key, .s x3.With, .y x3.B])) rfl (bi h fun x5 h6 h => o_cc (hp1 _ _ h6) (g0 rfl) rfl rfl rfl rfl hf1.choose_spec.1 hf1.choose_spec.2.1 hf1.choose_spec.2.2 (.cons .r .nil) rfl rfl (zA ?_))))
  refine c_if h rfl (fun h7 h => c_sr (o_m2 (.i z1) (.i z1) rfl (zA (zH ?_)))) fun h7 h => zK (zG (o_m2 (.i (wi (z1 + 1))) (.i (wi (z1 + 1))) rfl (zA ?_)))
  ·
   cases h
   exact end0 rfl .r
  exact lE (wi (z1 + 1)) h rfl rfl
 cases h
 exact end0 rfl .r
theorem zCT (p0 : (List zB)) (F1 : Nat) (C1 : List (List D)) (p1 : (zB → Option Bool)) (hp1 : ∀ (a0 : zB) r, p1 a0 = some r → FC Tryd.prog F1 ([.t (.agg [.lit (.int .i64 a0.Kind), .lit (.int .i64 a0.C.Kind), .lit (.string ⟨⟨a0.C.User⟩⟩), .lit (.string ⟨⟨a0.C.Folder⟩⟩), .lit (.string ⟨⟨a0.C.Name⟩⟩), .lit (.string ⟨⟨a0.C.Other⟩⟩), .lit (.int .i64 a0.C.Role), .lit (.int .i64 a0.C.Version), .seq 1 (zD a0.C.Data), .lit (.int .i64 a0.At), .lit (.int .i64 a0.O.Fuse), .seq 1 (zD a0.O.Choices), .lit (.int .i64 a0.O.Again), .seq 1 (zD a0.O.More), .lit (.string ⟨⟨a0.Key⟩⟩), .lit (.string ⟨⟨a0.With⟩⟩), .seq 1 (zD a0.B)])] ++ C1.map A.imm) [] (.t (.d (.lit (.bool r))))) (hf1 : ∃ fn, Tryd.prog.funcs[F1]? = some fn ∧ fn.body.isNone = false ∧ (fn.name == "runtime.NumGoroutine") = false) (r : Bool) (h : yR p0 p1 = some r) : FC Tryd.prog 26 [.t (.d (.seq 17 (List.map zF p0))), .t (.d (.clo F1 C1))] [] (.t (.d (.lit (.bool r)))) := by
 refine zAO (rs := [.tmp 4]) (n := 9) Tryd.func26 rfl rfl (Nat.le_of_ble_eq_true rfl) rfl (pins := []) rfl (L := [(0, .t (.d (.seq 17 (List.map zF p0)))), (1, .t (.d (.clo F1 C1)))]) rfl (c_sr (o_1 (.b false) rfl (zA (c_sr (o_m2 (.t (.d (.seq 17 (List.map zF p0)))) (.t (.d (.clo F1 C1))) rfl (bi h fun x1 h2 h => o_cA (zDA _ F1 C1 _ hp1 hf1 _ h2) (g0 rfl) rfl (.cons .r (.cons .r .nil)) rfl (o_m2 (.b (decide (x1 ≥ 0))) (.b (decide (x1 ≥ 0))) rfl (zA (zH ?_)))))))))
 cases h
 exact end0 rfl .r
theorem zB8 (p0 : (List UInt8)) (p1 : (List UInt8)) (r : Bool) (h : zAU p0 p1 = some r) : FC Tryd.prog 56 [.t (.d (.seq 1 (zD p0))), .t (.d (.seq 1 (zD p1)))] [] (.t (.d (.lit (.bool r)))) := by
 refine zAO (rs := [.tmp 4]) (n := 10) Tryd.func56 rfl rfl (Nat.le_of_ble_eq_true rfl) rfl (pins := []) rfl (L := [(0, .y p0), (1, .y p1)]) rfl (c_sr (o_1 (.b false) rfl (zA (c_sr (o_1 (.y p0) rfl (o_c (g0 rfl) rfl rfl rfl (strE _) (zFq _) (o_1 (.y p1) rfl (o_c (g0 rfl) rfl rfl rfl (strE _) (zFq _) ?_))))))))
 refine o_c (g0 rfl) rfl rfl rfl (congrArg (fun z => A.b z) (qP _ _)) trivial (o_1 (.b (p0 == p1)) rfl (zA (zH ?_)))
 cases h
 exact end0 rfl .r
theorem zHE (p0 : zC) (p1 : zC) (r : Bool) (h : zDX p0 p1 = some r) : FC Tryd.prog 54 [.t (.agg [.lit (.int .i64 p0.Kind), .lit (.string ⟨⟨p0.User⟩⟩), .lit (.string ⟨⟨p0.Folder⟩⟩), .lit (.string ⟨⟨p0.Name⟩⟩), .lit (.string ⟨⟨p0.Other⟩⟩), .lit (.int .i64 p0.Role), .lit (.int .i64 p0.Version), .seq 1 (zD p0.Data)]), .t (.agg [.lit (.int .i64 p1.Kind), .lit (.string ⟨⟨p1.User⟩⟩), .lit (.string ⟨⟨p1.Folder⟩⟩), .lit (.string ⟨⟨p1.Name⟩⟩), .lit (.string ⟨⟨p1.Other⟩⟩), .lit (.int .i64 p1.Role), .lit (.int .i64 p1.Version), .seq 1 (zD p1.Data)])] [] (.t (.d (.lit (.bool r)))) := by
 refine zAO (rs := [.tmp 4]) (n := 58) Tryd.func54 rfl rfl (Nat.le_of_ble_eq_true rfl) rfl (pins := []) rfl (L := [(0, .t (.agg [.i p0.Kind, .s p0.User, .s p0.Folder, .s p0.Name, .s p0.Other, .i p0.Role, .i p0.Version, .y p0.Data])), (1, .t (.agg [.i p1.Kind, .s p1.User, .s p1.Folder, .s p1.Name, .s p1.Other, .i p1.Role, .i p1.Version, .y p1.Data]))]) rfl (c_sr (o_m3 (.box [.i p0.Kind, .s p0.User, .s p0.Folder, .s p0.Name, .s p0.Other, .i p0.Role, .i p0.Version, .y p0.Data]) (.box [.i p1.Kind, .s p1.User, .s p1.Folder, .s p1.Name, .s p1.Other, .i p1.Role, .i p1.Version, .y p1.Data]) (.b false) rfl (zA (zM (c_sr (o_m4 (.ref 2 7) (.y p0.Data) (.ref 3 7) (.y p1.Data) rfl (bi h fun x1 h2 h => o_cA (zB8 _ _ _ h2) (g0 rfl) rfl (.cons .r (.cons .r .nil)) rfl (o_m2 (.b (!x1)) (.b (!x1)) rfl ?_))))))))
 rcases zE h with ⟨h3, h⟩ | ⟨h3, h⟩
 ·
  refine o_k4 rfl h3 (o_k1 rfl h3 (o_pT (.b true) h3 rfl (o_1 (.b true) rfl (o_k4 rfl rfl (o_k1 rfl rfl (o_pT (.b true) rfl rfl (o_1 (.b true) rfl (o_k4 rfl rfl (o_k1 rfl rfl (o_pT (.b true) rfl rfl ?_))))))))))
  refine zA (c_t rfl rfl (c_sr (o_1 (.b false) rfl (zA (zH ?_)))))
  cases h
  exact end0 rfl .r
 refine o_s (.ref 2 0) (gy rfl rfl rfl h3) rfl rfl rfl (o_s (.i p0.Kind) (gy rfl rfl rfl h3) rfl rfl rfl (o_s (.ref 3 0) (gy rfl rfl rfl h3) rfl rfl rfl (o_s (.i p1.Kind) (gy rfl rfl rfl h3) rfl rfl rfl (o_s (.b (p0.Kind != p1.Kind)) (gy rfl rfl rfl h3) rfl rfl rfl (o_pF (.b (p0.Kind != p1.Kind)) h3 rfl (o_1 (.b (p0.Kind != p1.Kind)) rfl ?_))))))
 rcases zE h with ⟨h4, h⟩ | ⟨h4, h⟩
 ·
  refine o_k4 rfl h4 (o_k1 rfl h4 (o_pT (.b true) h4 rfl (o_1 (.b true) rfl (o_k4 rfl rfl (o_k1 rfl rfl ?_)))))
  refine o_pT (.b true) rfl rfl (zA (c_t rfl rfl (c_sr (o_1 (.b false) rfl (zA (zH ?_))))))
  cases h
  exact end0 rfl .r
 refine o_s (.ref 2 5) (gy rfl rfl rfl h4) rfl rfl rfl (o_s (.i p0.Role) (gy rfl rfl rfl h4) rfl rfl rfl (o_s (.ref 3 5) (gy rfl rfl rfl h4) rfl rfl rfl (o_s (.i p1.Role) (gy rfl rfl rfl h4) rfl rfl rfl (o_s (.b (p0.Role != p1.Role)) (gy rfl rfl rfl h4) rfl rfl rfl (o_pF (.b (p0.Role != p1.Role)) h4 rfl (o_1 (.b (p0.Role != p1.Role)) rfl ?_))))))
 rcases zE h with ⟨h5, h⟩ | ⟨h5, h⟩
 ·
  refine o_k4 rfl h5 (o_k1 rfl h5 (o_pT (.b true) h5 rfl (zA (c_t rfl rfl (c_sr (o_1 (.b false) rfl (zA (zH ?_))))))))
  cases h
  exact end0 rfl .r
 refine o_s (.ref 2 6) (gy rfl rfl rfl h5) rfl rfl rfl (o_s (.i p0.Version) (gy rfl rfl rfl h5) rfl rfl rfl (o_s (.ref 3 6) (gy rfl rfl rfl h5) rfl rfl rfl (o_s (.i p1.Version) (gy rfl rfl rfl h5) rfl rfl rfl (o_s (.b (p0.Version != p1.Version)) (gy rfl rfl rfl h5) rfl rfl rfl (o_pF (.b (p0.Version != p1.Version)) h5 rfl (zA ?_))))))
 refine c_if h rfl (fun h6 h => c_sr (o_1 (.b false) rfl (zA (zH ?_)))) fun h6 h => zK (c_sr (o_m4 (.ref 2 1) (.s p0.User) (.ref 3 1) (.s p1.User) rfl (o_c (g0 rfl) rfl rfl rfl (congrArg (fun z => A.b z) (qP _ _)) trivial (o_1 (.b (p0.User == p1.User)) rfl ?_))))
 ·
  cases h
  exact end0 rfl .r
 rcases zE h with ⟨h7, h⟩ | ⟨h7, h⟩
 ·
  refine o_s (.ref 2 2) (gy rfl rfl rfl h7) rfl rfl rfl (o_s (.s p0.Folder) (gy rfl rfl rfl h7) rfl rfl rfl (o_s (.ref 3 2) (gy rfl rfl rfl h7) rfl rfl rfl (o_s (.s p1.Folder) (gy rfl rfl rfl h7) rfl rfl rfl (o_c (gy rfl rfl rfl h7) rfl rfl rfl (congrArg (fun z => A.b z) (qP _ _)) trivial (o_pT (.b (p0.Folder == p1.Folder)) h7 rfl (o_1 (.b (p0.Folder == p1.Folder)) rfl ?_))))))
  rcases zE h with ⟨h8, h⟩ | ⟨h8, h⟩
  ·
   refine o_s (.ref 2 3) (gy rfl rfl rfl h8) rfl rfl rfl (o_s (.s p0.Name) (gy rfl rfl rfl h8) rfl rfl rfl (o_s (.ref 3 3) (gy rfl rfl rfl h8) rfl rfl rfl (o_s (.s p1.Name) (gy rfl rfl rfl h8) rfl rfl rfl (o_c (gy rfl rfl rfl h8) rfl rfl rfl (congrArg (fun z => A.b z) (qP _ _)) trivial (o_pT (.b (p0.Name == p1.Name)) h8 rfl (o_1 (.b (p0.Name == p1.Name)) rfl ?_))))))
   rcases zE h with ⟨h9, h⟩ | ⟨h9, h⟩
   ·
    refine o_s (.ref 2 4) (gy rfl rfl rfl h9) rfl rfl rfl (o_s (.s p0.Other) (gy rfl rfl rfl h9) rfl rfl rfl (o_s (.ref 3 4) (gy rfl rfl rfl h9) rfl rfl rfl (o_s (.s p1.Other) (gy rfl rfl rfl h9) rfl rfl rfl (o_c (gy rfl rfl rfl h9) rfl rfl rfl (congrArg (fun z => A.b z) (qP _ _)) trivial (o_pT (.b (p0.Other == p1.Other)) h9 rfl (o_1 (.b (p0.Other == p1.Other)) rfl (zA (zH ?_))))))))
    cases h
    exact end0 rfl .r
   refine o_k4 rfl h9 (o_k1 rfl h9 (o_pF (.b false) h9 rfl (o_1 (.b false) rfl (zA (zH ?_)))))
   cases h
   exact end0 rfl .r
  refine o_k4 rfl h8 (o_k1 rfl h8 (o_pF (.b false) h8 rfl (o_1 (.b false) rfl (o_k4 rfl rfl (o_k1 rfl rfl (o_pF (.b false) rfl rfl (o_1 (.b false) rfl (zA (zH ?_)))))))))
  cases h
  exact end0 rfl .r
 refine o_k4 rfl h7 (o_k1 rfl h7 (o_pF (.b false) h7 rfl (o_1 (.b false) rfl (o_k4 rfl rfl (o_k1 rfl rfl (o_pF (.b false) rfl rfl (o_1 (.b false) rfl (o_k4 rfl rfl (o_k1 rfl rfl (o_pF (.b false) rfl rfl ?_))))))))))
 refine o_1 (.b false) rfl (zA (zH ?_))
 cases h
 exact end0 rfl .r
theorem zEQ (p0 : zQ) (p1 : zQ) (r : Bool) (h : zAn p0 p1 = some r) : FC Tryd.prog 55 [.t (.agg [.lit (.int .i64 p0.Fuse), .seq 1 (zD p0.Choices), .lit (.int .i64 p0.Again), .seq 1 (zD p0.More)]), .t (.agg [.lit (.int .i64 p1.Fuse), .seq 1 (zD p1.Choices), .lit (.int .i64 p1.Again), .seq 1 (zD p1.More)])] [] (.t (.d (.lit (.bool r)))) := by
 refine zAO (rs := [.tmp 4]) (n := 31) Tryd.func55 rfl rfl (Nat.le_of_ble_eq_true rfl) rfl (pins := []) rfl (L := [(0, .t (.agg [.i p0.Fuse, .y p0.Choices, .i p0.Again, .y p0.More])), (1, .t (.agg [.i p1.Fuse, .y p1.Choices, .i p1.Again, .y p1.More]))]) rfl (c_sr (o_m3 (.box [.i p0.Fuse, .y p0.Choices, .i p0.Again, .y p0.More]) (.box [.i p1.Fuse, .y p1.Choices, .i p1.Again, .y p1.More]) (.b false) rfl (zA (c_sr (o_m6 (.ref 2 0) (.i p0.Fuse) (.ref 3 0) (.i p1.Fuse) (.b (p0.Fuse == p1.Fuse)) (.b (p0.Fuse == p1.Fuse)) rfl ?_)))))
 rcases zE h with ⟨h1, h⟩ | ⟨h1, h⟩
 ·
  refine o_s (.ref 2 2) (gy rfl rfl rfl h1) rfl rfl rfl (o_s (.i p0.Again) (gy rfl rfl rfl h1) rfl rfl rfl (o_s (.ref 3 2) (gy rfl rfl rfl h1) rfl rfl rfl (o_s (.i p1.Again) (gy rfl rfl rfl h1) rfl rfl rfl (o_s (.b (p0.Again == p1.Again)) (gy rfl rfl rfl h1) rfl rfl rfl (o_pT (.b (p0.Again == p1.Again)) h1 rfl (o_1 (.b (p0.Again == p1.Again)) rfl ?_))))))
  rcases zE h with ⟨h2, h⟩ | ⟨h2, h⟩
  ·
   refine o_s (.ref 2 1) (gy rfl rfl rfl h2) rfl rfl rfl (o_s (.y p0.Choices) (gy rfl rfl rfl h2) rfl rfl rfl (o_s (.ref 3 1) (gy rfl rfl rfl h2) rfl rfl rfl (o_s (.y p1.Choices) (gy rfl rfl rfl h2) rfl rfl rfl (bi h fun x3 h4 h => o_cA (zB8 _ _ _ h4) (gy rfl rfl rfl h2) rfl (.cons .r (.cons .r .nil)) rfl (o_pT (.b x3) h2 rfl (o_1 (.b x3) rfl ?_))))))
   rcases zE h with ⟨h5, h⟩ | ⟨h5, h⟩
   ·
    refine o_s (.ref 2 3) (gy rfl rfl rfl h5) rfl rfl rfl (o_s (.y p0.More) (gy rfl rfl rfl h5) rfl rfl rfl (o_s (.ref 3 3) (gy rfl rfl rfl h5) rfl rfl rfl (o_s (.y p1.More) (gy rfl rfl rfl h5) rfl rfl rfl (bi h fun x6 h7 h => o_cA (zB8 _ _ _ h7) (gy rfl rfl rfl h5) rfl (.cons .r (.cons .r .nil)) rfl (o_pT (.b x6) h5 rfl (o_1 (.b x6) rfl (zA (zH ?_))))))))
    cases h
    exact end0 rfl .r
   refine o_k4 rfl h5 (o_k1 rfl h5 (o_pF (.b false) h5 rfl (o_1 (.b false) rfl (zA (zH ?_)))))
   cases h
   exact end0 rfl .r
  refine o_k4 rfl h2 (o_k1 rfl h2 (o_pF (.b false) h2 rfl (o_1 (.b false) rfl (o_k4 rfl rfl (o_k1 rfl rfl (o_pF (.b false) rfl rfl (o_1 (.b false) rfl (zA (zH ?_)))))))))
  cases h
  exact end0 rfl .r
 refine o_k4 rfl h1 (o_k1 rfl h1 (o_pF (.b false) h1 rfl (o_1 (.b false) rfl (o_k4 rfl rfl (o_k1 rfl rfl (o_pF (.b false) rfl rfl (o_1 (.b false) rfl (o_k4 rfl rfl (o_k1 rfl rfl (o_pF (.b false) rfl rfl ?_))))))))))
 refine o_1 (.b false) rfl (zA (zH ?_))
 cases h
 exact end0 rfl .r
theorem zEZ (p0 : zB) (p1 : zB) (r : Bool) (h : zAx p0 p1 = some r) : FC Tryd.prog 41 [.t (.agg [.lit (.int .i64 p0.Kind), .lit (.int .i64 p0.C.Kind), .lit (.string ⟨⟨p0.C.User⟩⟩), .lit (.string ⟨⟨p0.C.Folder⟩⟩), .lit (.string ⟨⟨p0.C.Name⟩⟩), .lit (.string ⟨⟨p0.C.Other⟩⟩), .lit (.int .i64 p0.C.Role), .lit (.int .i64 p0.C.Version), .seq 1 (zD p0.C.Data), .lit (.int .i64 p0.At), .lit (.int .i64 p0.O.Fuse), .seq 1 (zD p0.O.Choices), .lit (.int .i64 p0.O.Again), .seq 1 (zD p0.O.More), .lit (.string ⟨⟨p0.Key⟩⟩), .lit (.string ⟨⟨p0.With⟩⟩), .seq 1 (zD p0.B)]), .t (.agg [.lit (.int .i64 p1.Kind), .lit (.int .i64 p1.C.Kind), .lit (.string ⟨⟨p1.C.User⟩⟩), .lit (.string ⟨⟨p1.C.Folder⟩⟩), .lit (.string ⟨⟨p1.C.Name⟩⟩), .lit (.string ⟨⟨p1.C.Other⟩⟩), .lit (.int .i64 p1.C.Role), .lit (.int .i64 p1.C.Version), .seq 1 (zD p1.C.Data), .lit (.int .i64 p1.At), .lit (.int .i64 p1.O.Fuse), .seq 1 (zD p1.O.Choices), .lit (.int .i64 p1.O.Again), .seq 1 (zD p1.O.More), .lit (.string ⟨⟨p1.Key⟩⟩), .lit (.string ⟨⟨p1.With⟩⟩), .seq 1 (zD p1.B)])] [] (.t (.d (.lit (.bool r)))) := by
 refine zAO (rs := [.tmp 4]) (n := 52) Tryd.func41 rfl rfl (Nat.le_of_ble_eq_true rfl) rfl (pins := []) rfl (L := [(0, .t (.agg [.i p0.Kind, .i p0.C.Kind, .s p0.C.User, .s p0.C.Folder, .s p0.C.Name, .s p0.C.Other, .i p0.C.Role, .i p0.C.Version, .y p0.C.Data, .i p0.At, .i p0.O.Fuse, .y p0.O.Choices, .i p0.O.Again, .y p0.O.More, .s p0.Key, .s p0.With, .y p0.B])), (1, .t (.agg [.i p1.Kind, .i p1.C.Kind, .s p1.C.User, .s p1.C.Folder, .s p1.C.Name, .s p1.C.Other, .i p1.C.Role, .i p1.C.Version, .y p1.C.Data, .i p1.At, .i p1.O.Fuse, .y p1.O.Choices, .i p1.O.Again, .y p1.O.More, .s p1.Key, .s p1.With, .y p1.B]))]) rfl (c_sr (o_m3 (.box [.i p0.Kind, .i p0.C.Kind, .s p0.C.User, .s p0.C.Folder, .s p0.C.Name, .s p0.C.Other, .i p0.C.Role, .i p0.C.Version, .y p0.C.Data, .i p0.At, .i p0.O.Fuse, .y p0.O.Choices, .i p0.O.Again, .y p0.O.More, .s p0.Key, .s p0.With, .y p0.B]) (.box [.i p1.Kind, .i p1.C.Kind, .s p1.C.User, .s p1.C.Folder, .s p1.C.Name, .s p1.C.Other, .i p1.C.Role, .i p1.C.Version, .y p1.C.Data, .i p1.At, .i p1.O.Fuse, .y p1.O.Choices, .i p1.O.Again, .y p1.O.More, .s p1.Key, .s p1.With, .y p1.B]) (.b false) rfl (zA (c_sr (o_m6 (.ref 2 0) (.i p0.Kind) (.ref 3 0) (.i p1.Kind) (.b (p0.Kind == p1.Kind)) (.b (p0.Kind == p1.Kind)) rfl ?_)))))
 rcases zE h with ⟨h1, h⟩ | ⟨h1, h⟩
 ·
  refine o_s (.ref 2 1) (gy rfl rfl rfl h1) rfl rfl rfl (o_s (.t (.agg [.i p0.C.Kind, .s p0.C.User, .s p0.C.Folder, .s p0.C.Name, .s p0.C.Other, .i p0.C.Role, .i p0.C.Version, .y p0.C.Data])) (gy rfl rfl rfl h1) rfl rfl rfl (o_s (.ref 3 1) (gy rfl rfl rfl h1) rfl rfl rfl (o_s (.t (.agg [.i p1.C.Kind, .s p1.C.User, .s p1.C.Folder, .s p1.C.Name, .s p1.C.Other, .i p1.C.Role, .i p1.C.Version, .y p1.C.Data])) (gy rfl rfl rfl h1) rfl rfl rfl (bi h fun x2 h3 h => o_cA (zHE _ _ _ h3) (gy rfl rfl rfl h1) rfl (.cons .r (.cons .r .nil)) rfl (o_pT (.b x2) h1 rfl (o_1 (.b x2) rfl ?_))))))
  rcases zE h with ⟨h4, h⟩ | ⟨h4, h⟩
  ·
   refine o_s (.ref 2 9) (gy rfl rfl rfl h4) rfl rfl rfl (o_s (.i p0.At) (gy rfl rfl rfl h4) rfl rfl rfl (o_s (.ref 3 9) (gy rfl rfl rfl h4) rfl rfl rfl (o_s (.i p1.At) (gy rfl rfl rfl h4) rfl rfl rfl (o_s (.b (p0.At == p1.At)) (gy rfl rfl rfl h4) rfl rfl rfl (o_pT (.b (p0.At == p1.At)) h4 rfl (o_1 (.b (p0.At == p1.At)) rfl ?_))))))
   rcases zE h with ⟨h5, h⟩ | ⟨h5, h⟩
   ·
    refine o_s (.ref 2 10) (gy rfl rfl rfl h5) rfl rfl rfl (o_s (.t (.agg [.i p0.O.Fuse, .y p0.O.Choices, .i p0.O.Again, .y p0.O.More])) (gy rfl rfl rfl h5) rfl rfl rfl (o_s (.ref 3 10) (gy rfl rfl rfl h5) rfl rfl rfl (o_s (.t (.agg [.i p1.O.Fuse, .y p1.O.Choices, .i p1.O.Again, .y p1.O.More])) (gy rfl rfl rfl h5) rfl rfl rfl (bi h fun x6 h7 h => o_cA (zEQ _ _ _ h7) (gy rfl rfl rfl h5) rfl (.cons .r (.cons .r .nil)) rfl (o_pT (.b x6) h5 rfl (o_1 (.b x6) rfl ?_))))))
    rcases zE h with ⟨h8, h⟩ | ⟨h8, h⟩
    ·
     refine o_s (.ref 2 14) (gy rfl rfl rfl h8) rfl rfl rfl (o_s (.s p0.Key) (gy rfl rfl rfl h8) rfl rfl rfl (o_s (.ref 3 14) (gy rfl rfl rfl h8) rfl rfl rfl (o_s (.s p1.Key) (gy rfl rfl rfl h8) rfl rfl rfl (o_c (gy rfl rfl rfl h8) rfl rfl rfl (congrArg (fun z => A.b z) (qP _ _)) trivial (o_pT (.b (p0.Key == p1.Key)) h8 rfl (o_1 (.b (p0.Key == p1.Key)) rfl ?_))))))
     rcases zE h with ⟨h9, h⟩ | ⟨h9, h⟩
     ·
      refine o_s (.ref 2 15) (gy rfl rfl rfl h9) rfl rfl rfl (o_s (.s p0.With) (gy rfl rfl rfl h9) rfl rfl rfl (o_s (.ref 3 15) (gy rfl rfl rfl h9) rfl rfl rfl (o_s (.s p1.With) (gy rfl rfl rfl h9) rfl rfl rfl (o_c (gy rfl rfl rfl h9) rfl rfl rfl (congrArg (fun z => A.b z) (qP _ _)) trivial (o_pT (.b (p0.With == p1.With)) h9 rfl (o_1 (.b (p0.With == p1.With)) rfl ?_))))))
      rcases zE h with ⟨h10, h⟩ | ⟨h10, h⟩
      ·
       refine o_s (.ref 2 16) (gy rfl rfl rfl h10) rfl rfl rfl (o_s (.y p0.B) (gy rfl rfl rfl h10) rfl rfl rfl (o_s (.ref 3 16) (gy rfl rfl rfl h10) rfl rfl rfl (o_s (.y p1.B) (gy rfl rfl rfl h10) rfl rfl rfl (bi h fun x11 h12 h => o_cA (zB8 _ _ _ h12) (gy rfl rfl rfl h10) rfl (.cons .r (.cons .r .nil)) rfl (o_pT (.b x11) h10 rfl (o_1 (.b x11) rfl (zA (zH ?_))))))))
       cases h
       exact end0 rfl .r
      refine o_k4 rfl h10 (o_k1 rfl h10 (o_pF (.b false) h10 rfl (o_1 (.b false) rfl (zA (zH ?_)))))
      cases h
      exact end0 rfl .r
     refine o_k4 rfl h9 (o_k1 rfl h9 (o_pF (.b false) h9 rfl (o_1 (.b false) rfl (o_k4 rfl rfl (o_k1 rfl rfl (o_pF (.b false) rfl rfl (o_1 (.b false) rfl (zA (zH ?_)))))))))
     cases h
     exact end0 rfl .r
    refine o_k4 rfl h8 (o_k1 rfl h8 (o_pF (.b false) h8 rfl (o_1 (.b false) rfl (o_k4 rfl rfl (o_k1 rfl rfl (o_pF (.b false) rfl rfl (o_1 (.b false) rfl (o_k4 rfl rfl (o_k1 rfl rfl (o_pF (.b false) rfl rfl ?_))))))))))
    refine o_1 (.b false) rfl (zA (zH ?_))
    cases h
    exact end0 rfl .r
   refine o_k4 rfl h5 (o_k1 rfl h5 (o_pF (.b false) h5 rfl (o_1 (.b false) rfl (o_k4 rfl rfl (o_k1 rfl rfl (o_pF (.b false) rfl rfl (o_1 (.b false) rfl (o_k4 rfl rfl (o_k1 rfl rfl (o_pF (.b false) rfl rfl ?_))))))))))
   refine o_1 (.b false) rfl (o_k4 rfl rfl (o_k1 rfl rfl (o_pF (.b false) rfl rfl (o_1 (.b false) rfl (zA (zH ?_))))))
   cases h
   exact end0 rfl .r
  refine o_k4 rfl h4 (o_k1 rfl h4 (o_pF (.b false) h4 rfl (o_1 (.b false) rfl (o_k4 rfl rfl (o_k1 rfl rfl (o_pF (.b false) rfl rfl (o_1 (.b false) rfl (o_k4 rfl rfl (o_k1 rfl rfl (o_pF (.b false) rfl rfl ?_))))))))))
  refine o_1 (.b false) rfl (o_k4 rfl rfl (o_k1 rfl rfl (o_pF (.b false) rfl rfl (o_1 (.b false) rfl (o_k4 rfl rfl (o_k1 rfl rfl (o_pF (.b false) rfl rfl (o_1 (.b false) rfl (zA (zH ?_))))))))))
  cases h
  exact end0 rfl .r
 refine o_k4 rfl h1 (o_k1 rfl h1 (o_pF (.b false) h1 rfl (o_1 (.b false) rfl (o_k4 rfl rfl (o_k1 rfl rfl (o_pF (.b false) rfl rfl (o_1 (.b false) rfl (o_k4 rfl rfl (o_k1 rfl rfl (o_pF (.b false) rfl rfl ?_))))))))))
 refine o_1 (.b false) rfl (o_k4 rfl rfl (o_k1 rfl rfl (o_pF (.b false) rfl rfl (o_1 (.b false) rfl (o_k4 rfl rfl (o_k1 rfl rfl ?_))))))
 refine o_pF (.b false) rfl rfl (o_1 (.b false) rfl (o_k4 rfl rfl (o_k1 rfl rfl (o_pF (.b false) rfl rfl (o_1 (.b false) rfl (zA (zH ?_)))))))
 cases h
 exact end0 rfl .r
theorem zFw (p0 : zB) (r : zB) (h : zCU p0 = some r) : FC Tryd.prog 42 [.t (.agg [.lit (.int .i64 p0.Kind), .lit (.int .i64 p0.C.Kind), .lit (.string ⟨⟨p0.C.User⟩⟩), .lit (.string ⟨⟨p0.C.Folder⟩⟩), .lit (.string ⟨⟨p0.C.Name⟩⟩), .lit (.string ⟨⟨p0.C.Other⟩⟩), .lit (.int .i64 p0.C.Role), .lit (.int .i64 p0.C.Version), .seq 1 (zD p0.C.Data), .lit (.int .i64 p0.At), .lit (.int .i64 p0.O.Fuse), .seq 1 (zD p0.O.Choices), .lit (.int .i64 p0.O.Again), .seq 1 (zD p0.O.More), .lit (.string ⟨⟨p0.Key⟩⟩), .lit (.string ⟨⟨p0.With⟩⟩), .seq 1 (zD p0.B)])] [] (.t (.agg [.lit (.int .i64 r.Kind), .lit (.int .i64 r.C.Kind), .lit (.string ⟨⟨r.C.User⟩⟩), .lit (.string ⟨⟨r.C.Folder⟩⟩), .lit (.string ⟨⟨r.C.Name⟩⟩), .lit (.string ⟨⟨r.C.Other⟩⟩), .lit (.int .i64 r.C.Role), .lit (.int .i64 r.C.Version), .seq 1 (zD r.C.Data), .lit (.int .i64 r.At), .lit (.int .i64 r.O.Fuse), .seq 1 (zD r.O.Choices), .lit (.int .i64 r.O.Again), .seq 1 (zD r.O.More), .lit (.string ⟨⟨r.Key⟩⟩), .lit (.string ⟨⟨r.With⟩⟩), .seq 1 (zD r.B)])) := by
 refine zAO (rs := [.cell 2 46]) (n := 52) Tryd.func42 rfl rfl (Nat.le_of_ble_eq_true rfl) rfl (pins := []) rfl (L := [(0, .t (.agg [.i p0.Kind, .i p0.C.Kind, .s p0.C.User, .s p0.C.Folder, .s p0.C.Name, .s p0.C.Other, .i p0.C.Role, .i p0.C.Version, .y p0.C.Data, .i p0.At, .i p0.O.Fuse, .y p0.O.Choices, .i p0.O.Again, .y p0.O.More, .s p0.Key, .s p0.With, .y p0.B]))]) rfl (c_sr (o_m2 (.box [.i p0.Kind, .i p0.C.Kind, .s p0.C.User, .s p0.C.Folder, .s p0.C.Name, .s p0.C.Other, .i p0.C.Role, .i p0.C.Version, .y p0.C.Data, .i p0.At, .i p0.O.Fuse, .y p0.O.Choices, .i p0.O.Again, .y p0.O.More, .s p0.Key, .s p0.With, .y p0.B]) (.box [.i 0, .i 0, .s [], .s [], .s [], .s [], .i 0, .i 0, .n, .i 0, .i 0, .n, .i 0, .n, .s [], .s [], .n]) rfl (zA (c_sr (o_m2 (.ref 1 0) (.i p0.Kind) rfl (o_s (.t (.agg [.i p0.Kind, .i 0, .s [], .s [], .s [], .s [], .i 0, .i 0, .n, .i 0, .i 0, .n, .i 0, .n, .s [], .s [], .n])) (g0 rfl) rfl rfl (by kernel_rfl) (o_1 (.box [.i 0, .i 0, .s [], .s [], .s [], .s [], .i 0, .i 0, .n, .i 0, .i 0, .n, .i 0, .n, .s [], .s [], .n]) rfl (o_st (.box [.i p0.Kind, .i 0, .s [], .s [], .s [], .s [], .i 0, .i 0, .n, .i 0, .i 0, .n, .i 0, .n, .s [], .s [], .n]) (g0 rfl) rfl rfl rfl ?_))))))))
 refine zA (zM (c_sr (o_m2 (.ref 1 0) (.i p0.Kind) rfl (zA (zL (zX r (fun (_ : Unit) => [(1, .box [.i p0.Kind, .i p0.C.Kind, .s p0.C.User, .s p0.C.Folder, .s p0.C.Name, .s p0.C.Other, .i p0.C.Role, .i p0.C.Version, .y p0.C.Data, .i p0.At, .i p0.O.Fuse, .y p0.O.Choices, .i p0.O.Again, .y p0.O.More, .s p0.Key, .s p0.With, .y p0.B]), (2, .box [.i 0, .i 0, .s [], .s [], .s [], .s [], .i 0, .i 0, .n, .i 0, .i 0, .n, .i 0, .n, .s [], .s [], .n]), (3, .box [.i p0.Kind, .i 0, .s [], .s [], .s [], .s [], .i 0, .i 0, .n, .i 0, .i 0, .n, .i 0, .n, .s [], .s [], .n])]) (fun _ => zDv p0) ?_ ?_))))))
 ·
  refine zL (zX r (fun (y1 : (List UInt8)) => [(1, .box [.i p0.Kind, .i p0.C.Kind, .s p0.C.User, .s p0.C.Folder, .s p0.C.Name, .s p0.C.Other, .i p0.C.Role, .i p0.C.Version, .y p0.C.Data, .i p0.At, .i p0.O.Fuse, .y p0.O.Choices, .i p0.O.Again, .y p0.O.More, .s p0.Key, .s p0.With, .y p0.B]), (2, .box [.i 0, .i 0, .s [], .s [], .s [], .s [], .i 0, .i 0, .n, .i 0, .i 0, .n, .i 0, .n, .s [], .s [], .n]), (3, .box [.i p0.Kind, .i 0, .s [], .s [], .s [], .s [], .i 0, .i 0, .n, .i 0, .i 0, .n, .i 0, .n, .s y1, .s [], .n])]) (fun y1 => zCP p0 y1) ?_ ?_)
  ·
   refine zL (zX r (fun (_ : Unit) => [(1, .box [.i p0.Kind, .i p0.C.Kind, .s p0.C.User, .s p0.C.Folder, .s p0.C.Name, .s p0.C.Other, .i p0.C.Role, .i p0.C.Version, .y p0.C.Data, .i p0.At, .i p0.O.Fuse, .y p0.O.Choices, .i p0.O.Again, .y p0.O.More, .s p0.Key, .s p0.With, .y p0.B]), (2, .box [.i 0, .i 0, .s [], .s [], .s [], .s [], .i 0, .i 0, .n, .i 0, .i 0, .n, .i 0, .n, .s [], .s [], .n]), (3, .box [.i p0.Kind, .i 0, .s [], .s [], .s [], .s [], .i 0, .i 0, .n, .i 0, .i 0, .n, .i 0, .n, .s [], .s [], .n])]) (fun _ => zDs p0) ?_ ?_)
   ·
    refine zL (zX r (fun (_ : Unit) => [(1, .box [.i p0.Kind, .i p0.C.Kind, .s p0.C.User, .s p0.C.Folder, .s p0.C.Name, .s p0.C.Other, .i p0.C.Role, .i p0.C.Version, .y p0.C.Data, .i p0.At, .i p0.O.Fuse, .y p0.O.Choices, .i p0.O.Again, .y p0.O.More, .s p0.Key, .s p0.With, .y p0.B]), (2, .box [.i 0, .i 0, .s [], .s [], .s [], .s [], .i 0, .i 0, .n, .i 0, .i 0, .n, .i 0, .n, .s [], .s [], .n]), (3, .box [.i p0.Kind, .i 0, .s [], .s [], .s [], .s [], .i 0, .i 0, .n, .i 0, .i 0, .n, .i 0, .n, .s [], .s [], .n])]) (fun _ => zDw p0) ?_ ?_)
    ·
     refine zL (zX r (fun (_ : Unit) => [(1, .box [.i p0.Kind, .i p0.C.Kind, .s p0.C.User, .s p0.C.Folder, .s p0.C.Name, .s p0.C.Other, .i p0.C.Role, .i p0.C.Version, .y p0.C.Data, .i p0.At, .i p0.O.Fuse, .y p0.O.Choices, .i p0.O.Again, .y p0.O.More, .s p0.Key, .s p0.With, .y p0.B]), (2, .box [.i 0, .i 0, .s [], .s [], .s [], .s [], .i 0, .i 0, .n, .i 0, .i 0, .n, .i 0, .n, .s [], .s [], .n]), (3, .box [.i p0.Kind, .i 0, .s [], .s [], .s [], .s [], .i 0, .i 0, .n, .i 0, .i 0, .n, .i 0, .n, .s [], .s [], .n])]) (fun _ => zDx p0) ?_ ?_)
     ·
      refine zL (zX r (fun (_ : Unit) => [(1, .box [.i p0.Kind, .i p0.C.Kind, .s p0.C.User, .s p0.C.Folder, .s p0.C.Name, .s p0.C.Other, .i p0.C.Role, .i p0.C.Version, .y p0.C.Data, .i p0.At, .i p0.O.Fuse, .y p0.O.Choices, .i p0.O.Again, .y p0.O.More, .s p0.Key, .s p0.With, .y p0.B]), (2, .box [.i 0, .i 0, .s [], .s [], .s [], .s [], .i 0, .i 0, .n, .i 0, .i 0, .n, .i 0, .n, .s [], .s [], .n]), (3, .box [.i p0.Kind, .i 0, .s [], .s [], .s [], .s [], .i 0, .i 0, .n, .i 0, .i 0, .n, .i 0, .n, .s [], .s [], .n])]) (fun _ => zCO p0) ?_ ?_)
      ·
       refine zL (zX r (fun (_ : Unit) => [(1, .box [.i p0.Kind, .i p0.C.Kind, .s p0.C.User, .s p0.C.Folder, .s p0.C.Name, .s p0.C.Other, .i p0.C.Role, .i p0.C.Version, .y p0.C.Data, .i p0.At, .i p0.O.Fuse, .y p0.O.Choices, .i p0.O.Again, .y p0.O.More, .s p0.Key, .s p0.With, .y p0.B]), (2, .box [.i 0, .i 0, .s [], .s [], .s [], .s [], .i 0, .i 0, .n, .i 0, .i 0, .n, .i 0, .n, .s [], .s [], .n]), (3, .box [.i p0.Kind, .i 0, .s [], .s [], .s [], .s [], .i 0, .i 0, .n, .i 0, .i 0, .n, .i 0, .n, .s [], .s [], .n])]) (fun _ => zBQ p0) ?_ ?_)
       ·
        refine zL (zM (zM (zM (c_sr (o_m2 (.b (p0.Kind == 1)) (.b (p0.Kind == 1)) rfl (zA ?_))))))
        refine c_if h rfl (fun h2 h => zK (c_t h2 rfl (qU ?_))) fun h2 h => zG (o_m2 (.b (p0.Kind == 2)) (.b (p0.Kind == 2)) rfl (zA ?_))
        ·
         exact lE () h rfl rfl
        refine c_if h rfl (fun h3 h => qU ?_) fun h3 h => zK (zM (c_sr (o_m2 (.b (p0.Kind == 4)) (.b (p0.Kind == 4)) rfl (zA ?_))))
        ·
         exact lE () h rfl rfl
        refine c_if h rfl (fun h4 h => qU ?_) fun h4 h => zK (zM (c_sr (o_m2 (.b (p0.Kind == 8)) (.b (p0.Kind == 8)) rfl (zA ?_))))
        ·
         exact lE () h rfl rfl
        refine c_if h rfl (fun h5 h => qU ?_) fun h5 h => zK (zM (c_sr (o_m2 (.b (p0.Kind == 5)) (.b (p0.Kind == 5)) rfl (zA ?_))))
        ·
         exact lE () h rfl rfl
        refine c_if h rfl (fun h6 h => qU ?_) fun h6 h => zK (zM (c_sr (o_m2 (.b (p0.Kind == 7)) (.b (p0.Kind == 7)) rfl (zA ?_))))
        ·
         exact lE () h rfl rfl
        refine c_if h rfl (fun h7 h => qU ?_) fun h7 h => zK (zM (c_sr (o_m2 (.b (p0.Kind == 3)) (.b (p0.Kind == 3)) rfl (zA ?_))))
        ·
         exact lE () h rfl rfl
        refine c_if h rfl (fun h8 h => qU ?_) fun h8 h => zK (c_sr (o_m2 (.b (p0.Kind == 6)) (.b (p0.Kind == 6)) rfl (zA ?_)))
        ·
         exact lE [] h rfl rfl
        refine c_if h rfl (fun h9 h => qU ?_) fun h9 h => zK (qU (c_sr (o_1 (.t (.agg [.i p0.Kind, .i 0, .s [], .s [], .s [], .s [], .i 0, .i 0, .n, .i 0, .i 0, .n, .i 0, .n, .s [], .s [], .n])) rfl (o_st (.box [.i p0.Kind, .i 0, .s [], .s [], .s [], .s [], .i 0, .i 0, .n, .i 0, .i 0, .n, .i 0, .n, .s [], .s [], .n]) (g0 rfl) rfl rfl rfl (zA (zH ?_))))))
        ·
         exact lE () h rfl rfl
        cases h
        exact end0 rfl (.t (.agg (.cons .r (.cons .r (.cons .r (.cons .r (.cons .r (.cons .r (.cons .r (.cons .r (.cons (.nil _) (.cons .r (.cons .r (.cons (.nil _) (.cons .r (.cons (.nil _) (.cons .r (.cons .r (.cons (.nil _) .nil)))))))))))))))))))
       rintro ⟨⟩ h
       refine c_sr (o_m3 (.ref 1 1) (.t (.agg [.i p0.C.Kind, .s p0.C.User, .s p0.C.Folder, .s p0.C.Name, .s p0.C.Other, .i p0.C.Role, .i p0.C.Version, .y p0.C.Data])) (.ref 3 1) rfl (o_st (.box [.i p0.Kind, .i p0.C.Kind, .s p0.C.User, .s p0.C.Folder, .s p0.C.Name, .s p0.C.Other, .i p0.C.Role, .i p0.C.Version, .y p0.C.Data, .i 0, .i 0, .n, .i 0, .n, .s [], .s [], .n]) (g0 rfl) rfl rfl rfl (zA (qU (c_sr (o_1 (.t (.agg [.i p0.Kind, .i p0.C.Kind, .s p0.C.User, .s p0.C.Folder, .s p0.C.Name, .s p0.C.Other, .i p0.C.Role, .i p0.C.Version, .y p0.C.Data, .i 0, .i 0, .n, .i 0, .n, .s [], .s [], .n])) rfl (o_st (.box [.i p0.Kind, .i p0.C.Kind, .s p0.C.User, .s p0.C.Folder, .s p0.C.Name, .s p0.C.Other, .i p0.C.Role, .i p0.C.Version, .y p0.C.Data, .i 0, .i 0, .n, .i 0, .n, .s [], .s [], .n]) (g0 rfl) rfl rfl rfl (zA (zH ?_)))))))))
       cases h
       exact end0 rfl (.t (.agg (.cons .r (.cons .r (.cons .r (.cons .r (.cons .r (.cons .r (.cons .r (.cons .r (.cons .r (.cons .r (.cons .r (.cons (.nil _) (.cons .r (.cons (.nil _) (.cons .r (.cons .r (.cons (.nil _) .nil)))))))))))))))))))
      rintro ⟨⟩ h
      refine c_sr (o_m3 (.ref 1 10) (.t (.agg [.i p0.O.Fuse, .y p0.O.Choices, .i p0.O.Again, .y p0.O.More])) (.ref 3 10) rfl (o_st (.box [.i p0.Kind, .i 0, .s [], .s [], .s [], .s [], .i 0, .i 0, .n, .i 0, .i p0.O.Fuse, .y p0.O.Choices, .i p0.O.Again, .y p0.O.More, .s [], .s [], .n]) (g0 rfl) rfl rfl rfl (zA (qU (c_sr (o_1 (.t (.agg [.i p0.Kind, .i 0, .s [], .s [], .s [], .s [], .i 0, .i 0, .n, .i 0, .i p0.O.Fuse, .y p0.O.Choices, .i p0.O.Again, .y p0.O.More, .s [], .s [], .n])) rfl (o_st (.box [.i p0.Kind, .i 0, .s [], .s [], .s [], .s [], .i 0, .i 0, .n, .i 0, .i p0.O.Fuse, .y p0.O.Choices, .i p0.O.Again, .y p0.O.More, .s [], .s [], .n]) (g0 rfl) rfl rfl rfl (zA (zH ?_)))))))))
      cases h
      exact end0 rfl (.t (.agg (.cons .r (.cons .r (.cons .r (.cons .r (.cons .r (.cons .r (.cons .r (.cons .r (.cons (.nil _) (.cons .r (.cons .r (.cons .r (.cons .r (.cons .r (.cons .r (.cons .r (.cons (.nil _) .nil)))))))))))))))))))
     rintro ⟨⟩ h
     refine zM (c_sr (o_m3 (.ref 1 15) (.s p0.With) (.ref 3 15) rfl (o_st (.box [.i p0.Kind, .i 0, .s [], .s [], .s [], .s [], .i 0, .i 0, .n, .i 0, .i 0, .n, .i 0, .n, .s [], .s p0.With, .n]) (g0 rfl) rfl rfl rfl (zA (zG (o_m3 (.ref 1 14) (.s p0.Key) (.ref 3 14) rfl (o_st (.box [.i p0.Kind, .i 0, .s [], .s [], .s [], .s [], .i 0, .i 0, .n, .i 0, .i 0, .n, .i 0, .n, .s p0.Key, .s p0.With, .n]) (g0 rfl) rfl rfl rfl ?_)))))))
     refine zA (qU (c_sr (o_1 (.t (.agg [.i p0.Kind, .i 0, .s [], .s [], .s [], .s [], .i 0, .i 0, .n, .i 0, .i 0, .n, .i 0, .n, .s p0.Key, .s p0.With, .n])) rfl (o_st (.box [.i p0.Kind, .i 0, .s [], .s [], .s [], .s [], .i 0, .i 0, .n, .i 0, .i 0, .n, .i 0, .n, .s p0.Key, .s p0.With, .n]) (g0 rfl) rfl rfl rfl (zA (zH ?_))))))
     cases h
     exact end0 rfl (.t (.agg (.cons .r (.cons .r (.cons .r (.cons .r (.cons .r (.cons .r (.cons .r (.cons .r (.cons (.nil _) (.cons .r (.cons .r (.cons (.nil _) (.cons .r (.cons (.nil _) (.cons .r (.cons .r (.cons (.nil _) .nil)))))))))))))))))))
    rintro ⟨⟩ h
    refine zM (c_sr (o_m3 (.ref 1 16) (.y p0.B) (.ref 3 16) rfl (o_st (.box [.i p0.Kind, .i 0, .s [], .s [], .s [], .s [], .i 0, .i 0, .n, .i 0, .i 0, .n, .i 0, .n, .s [], .s [], .y p0.B]) (g0 rfl) rfl rfl rfl (zA (zG (o_m3 (.ref 1 14) (.s p0.Key) (.ref 3 14) rfl (o_st (.box [.i p0.Kind, .i 0, .s [], .s [], .s [], .s [], .i 0, .i 0, .n, .i 0, .i 0, .n, .i 0, .n, .s p0.Key, .s [], .y p0.B]) (g0 rfl) rfl rfl rfl ?_)))))))
    refine zA (qU (c_sr (o_1 (.t (.agg [.i p0.Kind, .i 0, .s [], .s [], .s [], .s [], .i 0, .i 0, .n, .i 0, .i 0, .n, .i 0, .n, .s p0.Key, .s [], .y p0.B])) rfl (o_st (.box [.i p0.Kind, .i 0, .s [], .s [], .s [], .s [], .i 0, .i 0, .n, .i 0, .i 0, .n, .i 0, .n, .s p0.Key, .s [], .y p0.B]) (g0 rfl) rfl rfl rfl (zA (zH ?_))))))
    cases h
    exact end0 rfl (.t (.agg (.cons .r (.cons .r (.cons .r (.cons .r (.cons .r (.cons .r (.cons .r (.cons .r (.cons (.nil _) (.cons .r (.cons .r (.cons (.nil _) (.cons .r (.cons (.nil _) (.cons .r (.cons .r (.cons .r .nil)))))))))))))))))))
   rintro ⟨⟩ h
   refine zG (o_m3 (.ref 1 14) (.s p0.Key) (.ref 3 14) rfl (o_st (.box [.i p0.Kind, .i 0, .s [], .s [], .s [], .s [], .i 0, .i 0, .n, .i 0, .i 0, .n, .i 0, .n, .s p0.Key, .s [], .n]) (g0 rfl) rfl rfl rfl (zA ?_)))
   exact lE p0.Key h rfl rfl
  rintro y1 h
  refine c_sr (o_m3 (.ref 1 9) (.i p0.At) (.ref 3 9) rfl (o_st (.box [.i p0.Kind, .i 0, .s [], .s [], .s [], .s [], .i 0, .i 0, .n, .i p0.At, .i 0, .n, .i 0, .n, .s y1, .s [], .n]) (g0 rfl) rfl rfl rfl (zA (qU (c_sr (o_1 (.t (.agg [.i p0.Kind, .i 0, .s [], .s [], .s [], .s [], .i 0, .i 0, .n, .i p0.At, .i 0, .n, .i 0, .n, .s y1, .s [], .n])) rfl (o_st (.box [.i p0.Kind, .i 0, .s [], .s [], .s [], .s [], .i 0, .i 0, .n, .i p0.At, .i 0, .n, .i 0, .n, .s y1, .s [], .n]) (g0 rfl) rfl rfl rfl (zA (zH ?_)))))))))
  cases h
  exact end0 rfl (.t (.agg (.cons .r (.cons .r (.cons .r (.cons .r (.cons .r (.cons .r (.cons .r (.cons .r (.cons (.nil _) (.cons .r (.cons .r (.cons (.nil _) (.cons .r (.cons (.nil _) (.cons .r (.cons .r (.cons (.nil _) .nil)))))))))))))))))))
 rintro ⟨⟩ h
 refine c_sr (o_m3 (.ref 1 14) (.s p0.Key) (.ref 3 14) rfl (o_st (.box [.i p0.Kind, .i 0, .s [], .s [], .s [], .s [], .i 0, .i 0, .n, .i 0, .i 0, .n, .i 0, .n, .s p0.Key, .s [], .n]) (g0 rfl) rfl rfl rfl (zA (qU (c_sr (o_1 (.t (.agg [.i p0.Kind, .i 0, .s [], .s [], .s [], .s [], .i 0, .i 0, .n, .i 0, .i 0, .n, .i 0, .n, .s p0.Key, .s [], .n])) rfl (o_st (.box [.i p0.Kind, .i 0, .s [], .s [], .s [], .s [], .i 0, .i 0, .n, .i 0, .i 0, .n, .i 0, .n, .s p0.Key, .s [], .n]) (g0 rfl) rfl rfl rfl (zA (zH ?_)))))))))
 cases h
 exact end0 rfl (.t (.agg (.cons .r (.cons .r (.cons .r (.cons .r (.cons .r (.cons .r (.cons .r (.cons .r (.cons (.nil _) (.cons .r (.cons .r (.cons (.nil _) (.cons .r (.cons (.nil _) (.cons .r (.cons .r (.cons (.nil _) .nil)))))))))))))))))))
theorem zE7 (p0 : (List UInt8)) (r : Bool) (h : zB5 p0 = some r) : FC Tryd.prog 57 [.t (.d (.lit (.string ⟨⟨p0⟩⟩)))] [] (.t (.d (.lit (.bool r)))) := by
 refine zAO (rs := [.tmp 2]) (n := 36) Tryd.func57 rfl rfl (Nat.le_of_ble_eq_true rfl) rfl (pins := []) rfl (L := [(0, .s p0)]) rfl (c_sr (o_1 (.b false) rfl (zA (zX r (fun (_ : Unit) => [(0, .s p0)]) (fun _ => zES p0) ?_ ?_))))
 ·
  refine c_sr (o_m3 (.s p0) (.i (p0.length : Int)) (.i 0) rfl (zA (zL (c_lp (fun (z2 : Int) => [(0, .s p0), (6, .i (p0.length : Int)), (7, .i z2)]) (fun nl2 z2 => zAE p0 nl2 z2) (p0.length + 1) 0 h (fun _ => rfl) rfl rfl ?_))))
  rintro nl2 z2 h
  refine c_sr (o_1 (.b (decide (z2 < (p0.length : Int)))) rfl (zA (zM ?_)))
  refine c_if h rfl (fun h3 h => zK (zM (zL (c_sr (o_m2 (.i z2) (.i z2) rfl (zA (c_sr ?_))))))) fun h3 h => qU ?_
  ·
   refine o_m2 (.s p0) (.i z2) rfl (bi h fun x4 h5 h => o_c (g0 rfl) rfl rfl rfl (zEz h5) (zEu h5) (o_1 (.t (.d (.lit (.int .u8 (x4.toNat : Int))))) rfl (zA (c_sr (o_m3 (.t (.d (.lit (.int .u8 (x4.toNat : Int))))) (.b (decide ((x4.toNat : Int) < 97))) (.b (decide ((x4.toNat : Int) < 97))) rfl ?_)))))
   rcases zE h with ⟨h6, h⟩ | ⟨h6, h⟩
   ·
    refine o_k2 rfl h6 (o_pT (.b true) h6 rfl (o_1 (.b true) rfl (o_s (.t (.d (.lit (.int .u8 (x4.toNat : Int))))) (gy rfl rfl rfl rfl) rfl rfl rfl (o_s (.b (decide ((x4.toNat : Int) < 48))) (gy rfl rfl rfl rfl) rfl rfl rfl (o_s (.b (decide ((x4.toNat : Int) < 48))) (gy rfl rfl rfl rfl) rfl rfl rfl ?_)))))
    rcases zE h with ⟨h7, h⟩ | ⟨h7, h⟩
    ·
     refine o_k2 rfl h7 (o_pk (.b true) (b := true) h7 (gy rfl rfl rfl rfl) rfl rfl rfl rfl rfl (o_pT (.b true) rfl rfl (zA (c_t rfl rfl (c_sr (o_1 (.b false) rfl (zA (zH ?_))))))))
     cases h
     exact end0 rfl .r
    refine o_s (.t (.d (.lit (.int .u8 (x4.toNat : Int))))) (gy rfl rfl rfl h7) rfl rfl rfl (o_s (.b (decide ((x4.toNat : Int) > 57))) (gy rfl rfl rfl h7) rfl rfl rfl (o_pk (.b (decide ((x4.toNat : Int) > 57))) (b := false) h7 (gy rfl rfl rfl rfl) rfl rfl rfl rfl rfl (o_pT (.b (decide ((x4.toNat : Int) > 57))) rfl rfl (zA ?_))))
    refine c_if h rfl (fun h8 h => c_sr (o_1 (.b false) rfl (zA (zH ?_)))) fun h8 h => zK (zG (o_m2 (.i (wi (z2 + 1))) (.i (wi (z2 + 1))) rfl (zA ?_)))
    ·
     cases h
     exact end0 rfl .r
    exact lE (wi (z2 + 1)) h rfl rfl
   refine o_s (.t (.d (.lit (.int .u8 (x4.toNat : Int))))) (gy rfl rfl rfl h6) rfl rfl rfl (o_s (.b (decide ((x4.toNat : Int) > 122))) (gy rfl rfl rfl h6) rfl rfl rfl (o_pF (.b (decide ((x4.toNat : Int) > 122))) h6 rfl (o_1 (.b (decide ((x4.toNat : Int) > 122))) rfl ?_)))
   rcases zE h with ⟨h9, h⟩ | ⟨h9, h⟩
   ·
    refine o_s (.t (.d (.lit (.int .u8 (x4.toNat : Int))))) (gy rfl rfl rfl h9) rfl rfl rfl (o_s (.b (decide ((x4.toNat : Int) < 48))) (gy rfl rfl rfl h9) rfl rfl rfl (o_s (.b (decide ((x4.toNat : Int) < 48))) (gy rfl rfl rfl h9) rfl rfl rfl ?_))
    rcases zE h with ⟨h10, h⟩ | ⟨h10, h⟩
    ·
     refine o_k2 rfl h10 (o_pk (.b true) (b := true) h10 (gy rfl rfl rfl h9) rfl rfl rfl rfl rfl (o_pT (.b true) h9 rfl (zA (c_t rfl rfl (c_sr (o_1 (.b false) rfl (zA (zH ?_))))))))
     cases h
     exact end0 rfl .r
    refine o_s (.t (.d (.lit (.int .u8 (x4.toNat : Int))))) (gy rfl rfl rfl h10) rfl rfl rfl (o_s (.b (decide ((x4.toNat : Int) > 57))) (gy rfl rfl rfl h10) rfl rfl rfl (o_pk (.b (decide ((x4.toNat : Int) > 57))) (b := false) h10 (gy rfl rfl rfl h9) rfl rfl rfl rfl rfl (o_pT (.b (decide ((x4.toNat : Int) > 57))) h9 rfl (zA ?_))))
    refine c_if h rfl (fun h11 h => c_sr (o_1 (.b false) rfl (zA (zH ?_)))) fun h11 h => zK (zG (o_m2 (.i (wi (z2 + 1))) (.i (wi (z2 + 1))) rfl (zA ?_)))
    ·
     cases h
     exact end0 rfl .r
    exact lE (wi (z2 + 1)) h rfl rfl
   refine o_k3 rfl h9 (o_un rfl rfl rfl rfl rfl (o_un rfl rfl rfl rfl rfl (o_k1 rfl h9 (o_pF (.b false) h9 rfl (zA (c_f rfl rfl (zK (zG (o_m2 (.i (wi (z2 + 1))) (.i (wi (z2 + 1))) rfl (zA ?_))))))))))
   exact lE (wi (z2 + 1)) h rfl rfl
  exact lE () h rfl rfl
 rintro ⟨⟩ h
 refine c_sr (o_m4 (.s p0) (.i (p0.length : Int)) (.b (decide ((p0.length : Int) ≥ 1))) (.b (decide ((p0.length : Int) ≥ 1))) rfl ?_)
 rcases zE h with ⟨h1, h⟩ | ⟨h1, h⟩
 ·
  refine o_s (.s p0) (gy rfl rfl rfl h1) rfl rfl rfl (o_s (.i (p0.length : Int)) (gy rfl rfl rfl h1) rfl rfl rfl (o_s (.b (decide ((p0.length : Int) ≤ 12))) (gy rfl rfl rfl h1) rfl rfl rfl (o_pT (.b (decide ((p0.length : Int) ≤ 12))) h1 rfl (o_1 (.b (decide ((p0.length : Int) ≤ 12))) rfl (zA (zH ?_))))))
  cases h
  exact end0 rfl .r
 refine o_k3 rfl h1 (o_pF (.b false) h1 rfl (o_1 (.b false) rfl (zA (zH ?_))))
 cases h
 exact end0 rfl .r
theorem zCK (p0 : (List UInt8)) (p1 : Bool) (r : Bool) (h : qK p0 p1 = some r) : FC Tryd.prog 58 [.t (.d (.lit (.string ⟨⟨p0⟩⟩))), .t (.d (.lit (.bool p1)))] [] (.t (.d (.lit (.bool r)))) := by
 refine zAO (rs := [.tmp 4]) (n := 10) Tryd.func58 rfl rfl (Nat.le_of_ble_eq_true rfl) rfl (pins := []) rfl (L := [(0, .s p0), (1, .b p1)]) rfl (c_sr (o_1 (.b false) rfl (zA (zM (c_sr (o_1 (.b p1) rfl (zA ?_)))))))
 refine c_if h rfl (fun h1 h => c_sr (o_1 (.s p0) rfl ?_)) fun h1 h => zK (c_sr (o_1 (.s p0) rfl (o_c (g0 rfl) rfl rfl rfl (congrArg (fun z => A.b z) (qP _ _)) trivial (o_1 (.b (p0 == [])) rfl (zA (zH ?_))))))
 ·
  refine bi h fun x2 h3 h => o_cA (zE7 _ _ h3) (g0 rfl) rfl (.cons .r .nil) rfl (o_1 (.b x2) rfl (zA (zH ?_)))
  cases h
  exact end0 rfl .r
 cases h
 exact end0 rfl .r
theorem zC7 (p0 : Int) (p1 : Int) (p2 : Int) (p3 : Bool) (r : Bool) (h : zV p0 p1 p2 p3 = some r) : FC Tryd.prog 59 [.t (.d (.lit (.int .i64 p0))), .t (.d (.lit (.int .i64 p1))), .t (.d (.lit (.int .i64 p2))), .t (.d (.lit (.bool p3)))] [] (.t (.d (.lit (.bool r)))) := by
 refine zAO (rs := [.tmp 8]) (n := 20) Tryd.func59 rfl rfl (Nat.le_of_ble_eq_true rfl) rfl (pins := []) rfl (L := [(0, .i p0), (1, .i p1), (2, .i p2), (3, .b p3)]) rfl (c_sr (o_1 (.b false) rfl (zA (zM (c_sr (o_1 (.b p3) rfl (zA ?_)))))))
 refine c_if h rfl (fun h1 h => c_sr (o_m4 (.i p0) (.i p1) (.b (decide (p0 ≥ p1))) (.b (decide (p0 ≥ p1))) rfl ?_)) fun h1 h => zK (c_sr (o_m3 (.i p0) (.b (p0 == 0)) (.b (p0 == 0)) rfl (zA (zH ?_))))
 ·
  rcases zE h with ⟨h2, h⟩ | ⟨h2, h⟩
  ·
   refine o_s (.i p0) (gy rfl rfl rfl h2) rfl rfl rfl (o_s (.i p2) (gy rfl rfl rfl h2) rfl rfl rfl (o_s (.b (decide (p0 ≤ p2))) (gy rfl rfl rfl h2) rfl rfl rfl (o_pT (.b (decide (p0 ≤ p2))) h2 rfl (o_1 (.b (decide (p0 ≤ p2))) rfl (zA (zH ?_))))))
   cases h
   exact end0 rfl .r
  refine o_k3 rfl h2 (o_pF (.b false) h2 rfl (o_1 (.b false) rfl (zA (zH ?_))))
  cases h
  exact end0 rfl .r
 cases h
 exact end0 rfl .r
end Go.Proofs.YtmgafkpkpmjieaaDoor
