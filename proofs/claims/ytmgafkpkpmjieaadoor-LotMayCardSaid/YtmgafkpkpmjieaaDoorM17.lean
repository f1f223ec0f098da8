/-
  Texts joined: see the remark at the head of each part.
-/
import Derived.Test.YtmgafkpkpmjieaaDoorM08
import Derived.Test.YtmgafkpkpmjieaaDoorM12
import Derived.Test.YtmgafkpkpmjieaaDoorM15
import Derived.Test.YtmgafkpkpmjieaaDoorM16
import Derived.Test.YtmgafkpkpmjieaaDoorM04
import Derived.Test.YtmgafkpkpmjieaaDoorM11
set_option linter.unusedVariables false
set_option linter.unusedSimpArgs false
/-
 Walks of functions: each function does what its model tells. Printed by a program of this claim's own (gen.py) off the given translation.
-/
namespace Go.Proofs.YtmgafkpkpmjieaaDoor
open Go Go.RowKit
set_option linter.unusedVariables false
set_option maxHeartbeats 4000000
set_option maxRecDepth 20000
theorem zHm (p0 : zC) (r : Bool) (h : yI p0 = some r) : FC Tryd.prog 43 [.t (.agg [.lit (.int .i64 p0.Kind), .lit (.string ⟨⟨p0.User⟩⟩), .lit (.string ⟨⟨p0.Folder⟩⟩), .lit (.string ⟨⟨p0.Name⟩⟩), .lit (.string ⟨⟨p0.Other⟩⟩), .lit (.int .i64 p0.Role), .lit (.int .i64 p0.Version), .seq 1 (zD p0.Data)])] [] (.t (.d (.lit (.bool r)))) := by
 refine zAO (rs := [.tmp 2]) (n := 104) Tryd.func43 rfl rfl (Nat.le_of_ble_eq_true rfl) rfl (pins := []) rfl (L := [(0, .t (.agg [.i p0.Kind, .s p0.User, .s p0.Folder, .s p0.Name, .s p0.Other, .i p0.Role, .i p0.Version, .y p0.Data]))]) rfl (c_sr (o_m2 (.box [.i p0.Kind, .s p0.User, .s p0.Folder, .s p0.Name, .s p0.Other, .i p0.Role, .i p0.Version, .y p0.Data]) (.b false) rfl (zA (zM (c_sr (o_m4 (.ref 1 0) (.i p0.Kind) (.b (decide (p0.Kind < 1))) (.b (decide (p0.Kind < 1))) rfl ?_))))))
 rcases zE h with ⟨h1, h⟩ | ⟨h1, h⟩
 ·
  refine o_k3 rfl h1 (o_pT (.b true) h1 rfl (o_1 (.b true) rfl (o_k4 rfl rfl (o_pT (.b true) rfl rfl (zA (c_t rfl rfl (c_sr (o_1 (.b false) rfl (zA (zH ?_))))))))))
  cases h
  exact end0 rfl .r
 refine o_s (.ref 1 0) (gy rfl rfl rfl h1) rfl rfl rfl (o_s (.i p0.Kind) (gy rfl rfl rfl h1) rfl rfl rfl (o_s (.b (decide (p0.Kind > 16))) (gy rfl rfl rfl h1) rfl rfl rfl (o_pF (.b (decide (p0.Kind > 16))) h1 rfl (o_1 (.b (decide (p0.Kind > 16))) rfl ?_))))
 rcases zE h with ⟨h2, h⟩ | ⟨h2, h⟩
 ·
  refine o_k4 rfl h2 (o_pT (.b true) h2 rfl (zA (c_t rfl rfl (c_sr (o_1 (.b false) rfl (zA (zH ?_)))))))
  cases h
  exact end0 rfl .r
 refine o_s (.ref 1 1) (gy rfl rfl rfl h2) rfl rfl rfl (o_s (.s p0.User) (gy rfl rfl rfl h2) rfl rfl rfl (bi h fun x3 h4 h => o_cA (zE7 _ _ h4) (gy rfl rfl rfl h2) rfl (.cons .r .nil) rfl (o_s (.b (!x3)) (gy rfl rfl rfl h2) rfl rfl rfl (o_pF (.b (!x3)) h2 rfl (zA ?_)))))
 refine c_if h rfl (fun h5 h => c_sr (o_1 (.b false) rfl (zA (zH ?_)))) fun h5 h => zK (c_sr (o_m2 (.ref 1 0) (.i p0.Kind) rfl ?_))
 ·
  cases h
  exact end0 rfl .r
 refine bi h fun x6 h7 h => o_gix (k := .i64) (l := zO) h7 (g0 rfl) rfl rfl rfl rfl rfl (by kernel_rfl) (o_m2 (.i x6) (.i x6) rfl (zA (zM (zL (zX r (fun (y8 : Bool) => [(1, .box [.i p0.Kind, .s p0.User, .s p0.Folder, .s p0.Name, .s p0.Other, .i p0.Role, .i p0.Version, .y p0.Data]), (3, .i x6), (22, .b y8)]) (fun y8 => qB x6 p0 y8) ?_ ?_)))))
 ·
  refine zG (o_m5 (.ref 1 2) (.s p0.Folder) (.i x6) (.i (wi ((((BitVec.ofInt IntKind.i64.bits x6) &&& (BitVec.ofInt IntKind.i64.bits 1)).toNat : Nat) : Int))) (.b ((wi ((((BitVec.ofInt IntKind.i64.bits x6) &&& (BitVec.ofInt IntKind.i64.bits 1)).toNat : Nat) : Int)) != 0)) rfl (bi h fun x34 h35 h => o_cA (zCK _ _ _ h35) (g0 rfl) rfl (.cons .r (.cons .r .nil)) rfl (o_m2 (.b (!x34)) (.b (!x34)) rfl ?_)))
  rcases zE h with ⟨h36, h⟩ | ⟨h36, h⟩
  ·
   refine o_k4 rfl h36 (o_k3 rfl h36 (o_pT (.b true) h36 rfl (o_1 (.b true) rfl (zA ?_))))
   exact lE true h rfl rfl
  refine o_s (.ref 1 3) (gy rfl rfl rfl h36) rfl rfl rfl (o_s (.s p0.Name) (gy rfl rfl rfl h36) rfl rfl rfl (o_s (.i x6) (gy rfl rfl rfl h36) rfl rfl rfl (o_s (.i (wi ((((BitVec.ofInt IntKind.i64.bits x6) &&& (BitVec.ofInt IntKind.i64.bits 2)).toNat : Nat) : Int))) (gy rfl rfl rfl h36) rfl rfl rfl (o_s (.b ((wi ((((BitVec.ofInt IntKind.i64.bits x6) &&& (BitVec.ofInt IntKind.i64.bits 2)).toNat : Nat) : Int)) != 0)) (gy rfl rfl rfl h36) rfl rfl rfl (bi h fun x37 h38 h => o_cA (zCK _ _ _ h38) (gy rfl rfl rfl h36) rfl (.cons .r (.cons .r .nil)) rfl (o_s (.b (!x37)) (gy rfl rfl rfl h36) rfl rfl rfl (o_pF (.b (!x37)) h36 rfl (o_1 (.b (!x37)) rfl (zA ?_)))))))))
  exact lE (!x37) h rfl rfl
 rintro y8 h
 refine c_if h rfl (fun h9 h => c_sr (o_1 (.b false) rfl (zA (zH ?_)))) fun h9 h => ?_
 ·
  cases h
  exact end0 rfl .r
 refine zX r (fun (y10 : Bool) => [(1, .box [.i p0.Kind, .s p0.User, .s p0.Folder, .s p0.Name, .s p0.Other, .i p0.Role, .i p0.Version, .y p0.Data]), (3, .i x6), (39, .b y10)]) (fun y10 => zW x6 p0 y10) ?_ ?_
 ·
  refine zG (o_m6 (.ref 1 4) (.s p0.Other) (.i x6) (.i (wi ((((BitVec.ofInt IntKind.i64.bits x6) &&& (BitVec.ofInt IntKind.i64.bits 4)).toNat : Nat) : Int))) (.b ((wi ((((BitVec.ofInt IntKind.i64.bits x6) &&& (BitVec.ofInt IntKind.i64.bits 4)).toNat : Nat) : Int)) != 0)) (.b ((wi ((((BitVec.ofInt IntKind.i64.bits x6) &&& (BitVec.ofInt IntKind.i64.bits 4)).toNat : Nat) : Int)) != 0)) rfl ?_)
  rcases zE h with ⟨h26, h⟩ | ⟨h26, h⟩
  ·
   refine o_k4 rfl h26 (o_un rfl rfl rfl rfl rfl (o_un rfl rfl rfl rfl rfl (o_un rfl rfl rfl rfl rfl (o_k1 rfl h26 (o_pT (.b true) h26 rfl (bi h fun x27 h28 h => o_cA (zCK _ _ _ h28) (g0 rfl) rfl (.cons .r (.cons .r .nil)) rfl (o_m2 (.b (!x27)) (.b (!x27)) rfl (zA ?_))))))))
   exact lE (!x27) h rfl rfl
  refine o_s (.i x6) (gy rfl rfl rfl h26) rfl rfl rfl (o_s (.i (wi ((((BitVec.ofInt IntKind.i64.bits x6) &&& (BitVec.ofInt IntKind.i64.bits 8)).toNat : Nat) : Int))) (gy rfl rfl rfl h26) rfl rfl rfl (o_s (.b ((wi ((((BitVec.ofInt IntKind.i64.bits x6) &&& (BitVec.ofInt IntKind.i64.bits 8)).toNat : Nat) : Int)) != 0)) (gy rfl rfl rfl h26) rfl rfl rfl (o_s (.b ((wi ((((BitVec.ofInt IntKind.i64.bits x6) &&& (BitVec.ofInt IntKind.i64.bits 8)).toNat : Nat) : Int)) != 0)) (gy rfl rfl rfl h26) rfl rfl rfl ?_)))
  rcases zE h with ⟨h29, h⟩ | ⟨h29, h⟩
  ·
   refine o_s (.ref 1 4) (gy rfl rfl rfl h29) rfl rfl rfl (o_s (.s p0.Other) (gy rfl rfl rfl h29) rfl rfl rfl (o_c (gy rfl rfl rfl h29) rfl rfl rfl (congrArg (fun z => A.b (!z)) (qP _ _)) trivial (o_pk (.b (!(p0.Other == []))) (b := true) h29 (gy rfl rfl rfl h26) rfl rfl rfl rfl rfl (o_pF (.b (!(p0.Other == []))) h26 rfl (bi h fun x30 h31 h => o_cA (zCK _ _ _ h31) (g0 rfl) rfl (.cons .r (.cons .r .nil)) rfl (o_m2 (.b (!x30)) (.b (!x30)) rfl (zA ?_)))))))
   exact lE (!x30) h rfl rfl
  refine o_k3 rfl h29 (o_pk (.b false) (b := false) h29 (gy rfl rfl rfl h26) rfl rfl rfl rfl rfl (o_pF (.b false) h26 rfl (bi h fun x32 h33 h => o_cA (zCK _ _ _ h33) (g0 rfl) rfl (.cons .r (.cons .r .nil)) rfl (o_m2 (.b (!x32)) (.b (!x32)) rfl (zA ?_)))))
  exact lE (!x32) h rfl rfl
 rintro y10 h
 refine c_if h rfl (fun h11 h => c_sr (o_1 (.b false) rfl (zA (zH ?_)))) fun h11 h => ?_
 ·
  cases h
  exact end0 rfl .r
 refine zX r (fun (y12 : Bool) => [(1, .box [.i p0.Kind, .s p0.User, .s p0.Folder, .s p0.Name, .s p0.Other, .i p0.Role, .i p0.Version, .y p0.Data]), (3, .i x6), (57, .b y12)]) (fun y12 => zR p0 x6 y12) ?_ ?_
 ·
  refine zG (o_m4 (.i x6) (.i (wi ((((BitVec.ofInt IntKind.i64.bits x6) &&& (BitVec.ofInt IntKind.i64.bits 1)).toNat : Nat) : Int))) (.b ((wi ((((BitVec.ofInt IntKind.i64.bits x6) &&& (BitVec.ofInt IntKind.i64.bits 1)).toNat : Nat) : Int)) == 0)) (.b ((wi ((((BitVec.ofInt IntKind.i64.bits x6) &&& (BitVec.ofInt IntKind.i64.bits 1)).toNat : Nat) : Int)) == 0)) rfl ?_)
  rcases zE h with ⟨h22, h⟩ | ⟨h22, h⟩
  ·
   refine o_s (.ref 1 4) (gy rfl rfl rfl h22) rfl rfl rfl (o_s (.s p0.Other) (gy rfl rfl rfl h22) rfl rfl rfl (o_s (.ref 1 1) (gy rfl rfl rfl h22) rfl rfl rfl (o_s (.s p0.User) (gy rfl rfl rfl h22) rfl rfl rfl (o_c (gy rfl rfl rfl h22) rfl rfl rfl (congrArg (fun z => A.b z) (qP _ _)) trivial (o_pT (.b (p0.Other == p0.User)) h22 rfl (o_1 (.b (p0.Other == p0.User)) rfl ?_))))))
   rcases zE h with ⟨h23, h⟩ | ⟨h23, h⟩
   ·
    refine o_k4 rfl h23 (o_un rfl rfl rfl rfl rfl (o_un rfl rfl rfl rfl rfl (o_un rfl rfl rfl rfl rfl (o_un rfl rfl rfl rfl rfl (o_un rfl rfl rfl rfl rfl (o_k1 rfl h23 (o_pT (.b true) h23 rfl (o_1 (.b true) rfl (zA ?_)))))))))
    exact lE true h rfl rfl
   refine o_s (.ref 1 0) (gy rfl rfl rfl h23) rfl rfl rfl (o_s (.i p0.Kind) (gy rfl rfl rfl h23) rfl rfl rfl (o_s (.b (p0.Kind == 2)) (gy rfl rfl rfl h23) rfl rfl rfl (o_s (.b (p0.Kind == 2)) (gy rfl rfl rfl h23) rfl rfl rfl ?_)))
   rcases zE h with ⟨h24, h⟩ | ⟨h24, h⟩
   ·
    refine o_s (.ref 1 4) (gy rfl rfl rfl h24) rfl rfl rfl (o_s (.s p0.Other) (gy rfl rfl rfl h24) rfl rfl rfl (o_s (.ref 1 2) (gy rfl rfl rfl h24) rfl rfl rfl (o_s (.s p0.Folder) (gy rfl rfl rfl h24) rfl rfl rfl (o_c (gy rfl rfl rfl h24) rfl rfl rfl (congrArg (fun z => A.b z) (qP _ _)) trivial (o_pk (.b (p0.Other == p0.Folder)) (b := true) h24 (gy rfl rfl rfl h23) rfl rfl rfl rfl rfl (o_pF (.b (p0.Other == p0.Folder)) h23 rfl (o_1 (.b (p0.Other == p0.Folder)) rfl (zA ?_))))))))
    exact lE (p0.Other == p0.Folder) h rfl rfl
   refine o_k4 rfl h24 (o_k1 rfl h24 (o_pk (.b false) (b := false) h24 (gy rfl rfl rfl h23) rfl rfl rfl rfl rfl (o_pF (.b false) h23 rfl (o_1 (.b false) rfl (zA ?_)))))
   exact lE false h rfl rfl
  refine o_k4 rfl h22 (o_k1 rfl h22 (o_pF (.b false) h22 rfl (o_1 (.b false) rfl (o_s (.ref 1 0) (gy rfl rfl rfl rfl) rfl rfl rfl (o_s (.i p0.Kind) (gy rfl rfl rfl rfl) rfl rfl rfl (o_s (.b (p0.Kind == 2)) (gy rfl rfl rfl rfl) rfl rfl rfl (o_s (.b (p0.Kind == 2)) (gy rfl rfl rfl rfl) rfl rfl rfl ?_)))))))
  rcases zE h with ⟨h25, h⟩ | ⟨h25, h⟩
  ·
   refine o_s (.ref 1 4) (gy rfl rfl rfl h25) rfl rfl rfl (o_s (.s p0.Other) (gy rfl rfl rfl h25) rfl rfl rfl (o_s (.ref 1 2) (gy rfl rfl rfl h25) rfl rfl rfl (o_s (.s p0.Folder) (gy rfl rfl rfl h25) rfl rfl rfl (o_c (gy rfl rfl rfl h25) rfl rfl rfl (congrArg (fun z => A.b z) (qP _ _)) trivial (o_pk (.b (p0.Other == p0.Folder)) (b := true) h25 (gy rfl rfl rfl rfl) rfl rfl rfl rfl rfl (o_pF (.b (p0.Other == p0.Folder)) rfl rfl (o_1 (.b (p0.Other == p0.Folder)) rfl (zA ?_))))))))
   exact lE (p0.Other == p0.Folder) h rfl rfl
  refine o_k4 rfl h25 (o_k1 rfl h25 (o_pk (.b false) (b := false) h25 (gy rfl rfl rfl rfl) rfl rfl rfl rfl rfl (o_pF (.b false) rfl rfl (o_1 (.b false) rfl (zA ?_)))))
  exact lE false h rfl rfl
 rintro y12 h
 refine c_if h rfl (fun h13 h => c_sr (o_1 (.b false) rfl (zA (zH ?_)))) fun h13 h => c_sr (o_m5 (.ref 1 5) (.i p0.Role) (.i x6) (.i (wi ((((BitVec.ofInt IntKind.i64.bits x6) &&& (BitVec.ofInt IntKind.i64.bits 16)).toNat : Nat) : Int))) (.b ((wi ((((BitVec.ofInt IntKind.i64.bits x6) &&& (BitVec.ofInt IntKind.i64.bits 16)).toNat : Nat) : Int)) != 0)) rfl ?_)
 ·
  cases h
  exact end0 rfl .r
 refine bi h fun x14 h15 h => o_cA (zC7 _ _ _ _ _ h15) (g0 rfl) rfl (.cons .r (.cons .r (.cons .r (.cons .r .nil)))) rfl (o_m2 (.b (!x14)) (.b (!x14)) rfl ?_)
 rcases zE h with ⟨h16, h⟩ | ⟨h16, h⟩
 ·
  refine o_k4 rfl h16 (o_k3 rfl h16 (o_pT (.b true) h16 rfl (o_1 (.b true) rfl (zA (c_t rfl rfl (c_sr (o_1 (.b false) rfl (zA (zH ?_)))))))))
  cases h
  exact end0 rfl .r
 refine o_s (.ref 1 6) (gy rfl rfl rfl h16) rfl rfl rfl (o_s (.i p0.Version) (gy rfl rfl rfl h16) rfl rfl rfl (o_s (.i x6) (gy rfl rfl rfl h16) rfl rfl rfl (o_s (.i (wi ((((BitVec.ofInt IntKind.i64.bits x6) &&& (BitVec.ofInt IntKind.i64.bits 32)).toNat : Nat) : Int))) (gy rfl rfl rfl h16) rfl rfl rfl (o_s (.b ((wi ((((BitVec.ofInt IntKind.i64.bits x6) &&& (BitVec.ofInt IntKind.i64.bits 32)).toNat : Nat) : Int)) != 0)) (gy rfl rfl rfl h16) rfl rfl rfl (bi h fun x17 h18 h => o_cA (zC7 _ _ _ _ _ h18) (gy rfl rfl rfl h16) rfl (.cons .r (.cons .r (.cons .r (.cons .r .nil)))) rfl (o_s (.b (!x17)) (gy rfl rfl rfl h16) rfl rfl rfl (o_pF (.b (!x17)) h16 rfl (o_1 (.b (!x17)) rfl (zA ?_)))))))))
 refine c_if h rfl (fun h19 h => c_sr (o_1 (.b false) rfl (zA (zH ?_)))) fun h19 h => zK (c_sr (o_m2 (.ref 1 7) (.y p0.Data) rfl (o_c (g0 rfl) rfl rfl rfl (lenE _ _) trivial (o_m3 (.i x6) (.i (wi ((((BitVec.ofInt IntKind.i64.bits x6) &&& (BitVec.ofInt IntKind.i64.bits 64)).toNat : Nat) : Int))) (.b ((wi ((((BitVec.ofInt IntKind.i64.bits x6) &&& (BitVec.ofInt IntKind.i64.bits 64)).toNat : Nat) : Int)) != 0)) rfl ?_))))
 ·
  cases h
  exact end0 rfl .r
 refine bi h fun x20 h21 h => o_cA (zC7 _ _ _ _ _ h21) (g0 rfl) rfl (.cons .r (.cons .r (.cons .r (.cons .r .nil)))) rfl (o_1 (.b x20) rfl (zA (zH ?_)))
 cases h
 exact end0 rfl .r
theorem zFK (p0 : zQ) (r : Bool) (h : zCh p0 = some r) : FC Tryd.prog 44 [.t (.agg [.lit (.int .i64 p0.Fuse), .seq 1 (zD p0.Choices), .lit (.int .i64 p0.Again), .seq 1 (zD p0.More)])] [] (.t (.d (.lit (.bool r)))) := by
 refine zAO (rs := [.tmp 2]) (n := 33) Tryd.func44 rfl rfl (Nat.le_of_ble_eq_true rfl) rfl (pins := []) rfl (L := [(0, .t (.agg [.i p0.Fuse, .y p0.Choices, .i p0.Again, .y p0.More]))]) rfl (c_sr (o_m2 (.box [.i p0.Fuse, .y p0.Choices, .i p0.Again, .y p0.More]) (.b false) rfl (zA (c_sr (o_m4 (.ref 1 0) (.i p0.Fuse) (.b (decide (p0.Fuse ≥ (-1)))) (.b (decide (p0.Fuse ≥ (-1)))) rfl ?_)))))
 rcases zE h with ⟨h1, h⟩ | ⟨h1, h⟩
 ·
  refine o_s (.ref 1 0) (gy rfl rfl rfl h1) rfl rfl rfl (o_s (.i p0.Fuse) (gy rfl rfl rfl h1) rfl rfl rfl (o_s (.b (decide (p0.Fuse ≤ 1073741824))) (gy rfl rfl rfl h1) rfl rfl rfl (o_pT (.b (decide (p0.Fuse ≤ 1073741824))) h1 rfl (o_1 (.b (decide (p0.Fuse ≤ 1073741824))) rfl ?_))))
  rcases zE h with ⟨h2, h⟩ | ⟨h2, h⟩
  ·
   refine o_s (.ref 1 2) (gy rfl rfl rfl h2) rfl rfl rfl (o_s (.i p0.Again) (gy rfl rfl rfl h2) rfl rfl rfl (o_s (.b (decide (p0.Again ≥ (-1)))) (gy rfl rfl rfl h2) rfl rfl rfl (o_pT (.b (decide (p0.Again ≥ (-1)))) h2 rfl (o_1 (.b (decide (p0.Again ≥ (-1)))) rfl ?_))))
   rcases zE h with ⟨h3, h⟩ | ⟨h3, h⟩
   ·
    refine o_s (.ref 1 2) (gy rfl rfl rfl h3) rfl rfl rfl (o_s (.i p0.Again) (gy rfl rfl rfl h3) rfl rfl rfl (o_s (.b (decide (p0.Again ≤ 1073741824))) (gy rfl rfl rfl h3) rfl rfl rfl (o_pT (.b (decide (p0.Again ≤ 1073741824))) h3 rfl (o_1 (.b (decide (p0.Again ≤ 1073741824))) rfl ?_))))
    rcases zE h with ⟨h4, h⟩ | ⟨h4, h⟩
    ·
     refine o_s (.ref 1 1) (gy rfl rfl rfl h4) rfl rfl rfl (o_s (.y p0.Choices) (gy rfl rfl rfl h4) rfl rfl rfl (o_c (gy rfl rfl rfl h4) rfl rfl rfl (lenE _ _) trivial (o_s (.b (decide ((p0.Choices.length : Int) ≤ 4096))) (gy rfl rfl rfl h4) rfl rfl rfl (o_pT (.b (decide ((p0.Choices.length : Int) ≤ 4096))) h4 rfl (o_1 (.b (decide ((p0.Choices.length : Int) ≤ 4096))) rfl ?_)))))
     rcases zE h with ⟨h5, h⟩ | ⟨h5, h⟩
     ·
      refine o_s (.ref 1 3) (gy rfl rfl rfl h5) rfl rfl rfl (o_s (.y p0.More) (gy rfl rfl rfl h5) rfl rfl rfl (o_c (gy rfl rfl rfl h5) rfl rfl rfl (lenE _ _) trivial (o_s (.b (decide ((p0.More.length : Int) ≤ 4096))) (gy rfl rfl rfl h5) rfl rfl rfl (o_pT (.b (decide ((p0.More.length : Int) ≤ 4096))) h5 rfl (o_1 (.b (decide ((p0.More.length : Int) ≤ 4096))) rfl (zA (zH ?_)))))))
      cases h
      exact end0 rfl .r
     refine o_k4 rfl h5 (o_pF (.b false) h5 rfl (o_1 (.b false) rfl (zA (zH ?_))))
     cases h
     exact end0 rfl .r
    refine o_k4 rfl h4 (o_pF (.b false) h4 rfl (o_1 (.b false) rfl (o_k4 rfl rfl (o_pF (.b false) rfl rfl (o_1 (.b false) rfl (zA (zH ?_)))))))
    cases h
    exact end0 rfl .r
   refine o_k3 rfl h3 (o_pF (.b false) h3 rfl (o_1 (.b false) rfl (o_k4 rfl rfl (o_pF (.b false) rfl rfl (o_1 (.b false) rfl (o_k4 rfl rfl (o_pF (.b false) rfl rfl (o_1 (.b false) rfl ?_))))))))
   refine zA (zH ?_)
   cases h
   exact end0 rfl .r
  refine o_k3 rfl h2 (o_pF (.b false) h2 rfl (o_1 (.b false) rfl (o_k3 rfl rfl (o_pF (.b false) rfl rfl (o_1 (.b false) rfl (o_k4 rfl rfl (o_pF (.b false) rfl rfl (o_1 (.b false) rfl (o_k4 rfl rfl ?_)))))))))
  refine o_pF (.b false) rfl rfl (o_1 (.b false) rfl (zA (zH ?_)))
  cases h
  exact end0 rfl .r
 refine o_k3 rfl h1 (o_pF (.b false) h1 rfl (o_1 (.b false) rfl (o_k3 rfl rfl (o_pF (.b false) rfl rfl (o_1 (.b false) rfl (o_k3 rfl rfl (o_pF (.b false) rfl rfl (o_1 (.b false) rfl (o_k4 rfl rfl ?_)))))))))
 refine o_pF (.b false) rfl rfl (o_1 (.b false) rfl (o_k4 rfl rfl (o_pF (.b false) rfl rfl (o_1 (.b false) rfl (zA (zH ?_))))))
 cases h
 exact end0 rfl .r
theorem zBw (p0 : (List UInt8)) (r : Bool) (h : zBi p0 = some r) : FC Tryd.prog 45 [.t (.d (.lit (.string ⟨⟨p0⟩⟩)))] [] (.t (.d (.lit (.bool r)))) := by
 refine zAO (rs := [.tmp 2]) (n := 11) Tryd.func45 rfl rfl (Nat.le_of_ble_eq_true rfl) rfl (pins := []) rfl (L := [(0, .s p0)]) rfl (c_sr (o_1 (.b false) rfl (zA (c_sr (o_m4 (.s p0) (.i (p0.length : Int)) (.b (decide ((p0.length : Int) ≥ 1))) (.b (decide ((p0.length : Int) ≥ 1))) rfl ?_)))))
 rcases zE h with ⟨h1, h⟩ | ⟨h1, h⟩
 ·
  refine o_s (.s p0) (gy rfl rfl rfl h1) rfl rfl rfl (o_s (.i (p0.length : Int)) (gy rfl rfl rfl h1) rfl rfl rfl (o_s (.b (decide ((p0.length : Int) ≤ 40))) (gy rfl rfl rfl h1) rfl rfl rfl (o_pT (.b (decide ((p0.length : Int) ≤ 40))) h1 rfl (o_1 (.b (decide ((p0.length : Int) ≤ 40))) rfl (zA (zH ?_))))))
  cases h
  exact end0 rfl .r
 refine o_k3 rfl h1 (o_pF (.b false) h1 rfl (o_1 (.b false) rfl (zA (zH ?_))))
 cases h
 exact end0 rfl .r
theorem zGU (p0 : zB) (r : Bool) (h : zCF p0 = some r) : FC Tryd.prog 28 [.t (.agg [.lit (.int .i64 p0.Kind), .lit (.int .i64 p0.C.Kind), .lit (.string ⟨⟨p0.C.User⟩⟩), .lit (.string ⟨⟨p0.C.Folder⟩⟩), .lit (.string ⟨⟨p0.C.Name⟩⟩), .lit (.string ⟨⟨p0.C.Other⟩⟩), .lit (.int .i64 p0.C.Role), .lit (.int .i64 p0.C.Version), .seq 1 (zD p0.C.Data), .lit (.int .i64 p0.At), .lit (.int .i64 p0.O.Fuse), .seq 1 (zD p0.O.Choices), .lit (.int .i64 p0.O.Again), .seq 1 (zD p0.O.More), .lit (.string ⟨⟨p0.Key⟩⟩), .lit (.string ⟨⟨p0.With⟩⟩), .seq 1 (zD p0.B)])] [] (.t (.d (.lit (.bool r)))) := by
 refine zAO (rs := [.tmp 2]) (n := 72) Tryd.func28 rfl rfl (Nat.le_of_ble_eq_true rfl) rfl (pins := []) rfl (L := [(0, .t (.agg [.i p0.Kind, .i p0.C.Kind, .s p0.C.User, .s p0.C.Folder, .s p0.C.Name, .s p0.C.Other, .i p0.C.Role, .i p0.C.Version, .y p0.C.Data, .i p0.At, .i p0.O.Fuse, .y p0.O.Choices, .i p0.O.Again, .y p0.O.More, .s p0.Key, .s p0.With, .y p0.B]))]) rfl (c_sr (o_m2 (.box [.i p0.Kind, .i p0.C.Kind, .s p0.C.User, .s p0.C.Folder, .s p0.C.Name, .s p0.C.Other, .i p0.C.Role, .i p0.C.Version, .y p0.C.Data, .i p0.At, .i p0.O.Fuse, .y p0.O.Choices, .i p0.O.Again, .y p0.O.More, .s p0.Key, .s p0.With, .y p0.B]) (.b false) rfl (zA (zM (zM (zBN zC8 (by kernel_rfl) (d_1 (.t (.agg [.i p0.Kind, .i p0.C.Kind, .s p0.C.User, .s p0.C.Folder, .s p0.C.Name, .s p0.C.Other, .i p0.C.Role, .i p0.C.Version, .y p0.C.Data, .i p0.At, .i p0.O.Fuse, .y p0.O.Choices, .i p0.O.Again, .y p0.O.More, .s p0.Key, .s p0.With, .y p0.B])) rfl rfl (d_1 (.t (.agg [.i p0.Kind, .i p0.C.Kind, .s p0.C.User, .s p0.C.Folder, .s p0.C.Name, .s p0.C.Other, .i p0.C.Role, .i p0.C.Version, .y p0.C.Data, .i p0.At, .i p0.O.Fuse, .y p0.O.Choices, .i p0.O.Again, .y p0.O.More, .s p0.Key, .s p0.With, .y p0.B])) rfl rfl (bi h fun x1 h2 h => d_ca (zFw _ _ h2) rfl (dg0 rfl) rfl rfl rfl rfl rfl rfl rfl rfl (.cons .r .nil) rfl rfl ?_)))))))))
 refine bi h fun x3 h4 h => d_ca (zEZ _ _ _ h4) rfl (dg0 rfl) rfl rfl rfl rfl rfl rfl rfl rfl (.cons .r (.cons .r .nil)) rfl rfl (d_1 (.b (!x3)) rfl rfl (zCi (by kernel_rfl) ?_))
 refine c_if h rfl (fun h5 h => c_sr (o_1 (.b false) rfl (zA (zH ?_)))) fun h5 h => zK (zM (c_sr (o_m2 (.ref 1 0) (.i p0.Kind) rfl (zA (zL ?_)))))
 ·
  cases h
  exact end0 rfl .r
 refine zX r (fun (y6 : Bool) => [(1, .box [.i p0.Kind, .i p0.C.Kind, .s p0.C.User, .s p0.C.Folder, .s p0.C.Name, .s p0.C.Other, .i p0.C.Role, .i p0.C.Version, .y p0.C.Data, .i p0.At, .i p0.O.Fuse, .y p0.O.Choices, .i p0.O.Again, .y p0.O.More, .s p0.Key, .s p0.With, .y p0.B]), (9, .i p0.Kind), (10, .b y6)]) (fun y6 => zA0 p0 y6) ?_ ?_
 ·
  refine c_sr (o_m2 (.b (p0.Kind == 1)) (.b (p0.Kind == 1)) rfl (zA (c_if h rfl (fun h33 h => zK ?_) fun h33 h => zG (o_m2 (.b (p0.Kind == 2)) (.b (p0.Kind == 2)) rfl (zA ?_)))))
  ·
   exact lE (p0.Kind == 1) h rfl rfl
  exact lE (p0.Kind == 2) h rfl rfl
 rintro y6 h
 refine c_if h rfl (fun h7 h => c_sr (o_m2 (.ref 1 1) (.t (.agg [.i p0.C.Kind, .s p0.C.User, .s p0.C.Folder, .s p0.C.Name, .s p0.C.Other, .i p0.C.Role, .i p0.C.Version, .y p0.C.Data])) rfl ?_)) fun h7 h => c_sr (o_m2 (.b (p0.Kind == 3)) (.b (p0.Kind == 3)) rfl (zA ?_))
 ·
  refine bi h fun x8 h9 h => o_cA (zHm _ _ h9) (g0 rfl) rfl (.cons .r .nil) rfl (o_1 (.b x8) rfl (zA (zH ?_)))
  cases h
  exact end0 rfl .r
 refine c_if h rfl (fun h10 h => c_sr (o_m4 (.ref 1 9) (.i p0.At) (.b (decide (p0.At ≥ 1))) (.b (decide (p0.At ≥ 1))) rfl ?_)) fun h10 h => c_sr (o_m2 (.b (p0.Kind == 4)) (.b (p0.Kind == 4)) rfl (zA ?_))
 ·
  rcases zE h with ⟨h11, h⟩ | ⟨h11, h⟩
  ·
   refine o_s (.ref 1 9) (gy rfl rfl rfl h11) rfl rfl rfl (o_s (.i p0.At) (gy rfl rfl rfl h11) rfl rfl rfl (o_s (.b (decide (p0.At ≤ 4096))) (gy rfl rfl rfl h11) rfl rfl rfl (o_pT (.b (decide (p0.At ≤ 4096))) h11 rfl (o_1 (.b (decide (p0.At ≤ 4096))) rfl (zA (zH ?_))))))
   cases h
   exact end0 rfl .r
  refine o_k3 rfl h11 (o_pF (.b false) h11 rfl (o_1 (.b false) rfl (zA (zH ?_))))
  cases h
  exact end0 rfl .r
 refine c_if h rfl (fun h12 h => c_sr (o_m2 (.ref 1 10) (.t (.agg [.i p0.O.Fuse, .y p0.O.Choices, .i p0.O.Again, .y p0.O.More])) rfl ?_)) fun h12 h => c_sr (o_m2 (.b (p0.Kind == 5)) (.b (p0.Kind == 5)) rfl (zA ?_))
 ·
  refine bi h fun x13 h14 h => o_cA (zFK _ _ h14) (g0 rfl) rfl (.cons .r .nil) rfl (o_1 (.b x13) rfl (zA (zH ?_)))
  cases h
  exact end0 rfl .r
 refine c_if h rfl (fun h15 h => c_sr (o_m2 (.ref 1 14) (.s p0.Key) rfl ?_)) fun h15 h => c_sr (o_m2 (.b (p0.Kind == 6)) (.b (p0.Kind == 6)) rfl (zA ?_))
 ·
  refine bi h fun x16 h17 h => o_cA (zBw _ _ h17) (g0 rfl) rfl (.cons .r .nil) rfl (o_1 (.b x16) rfl ?_)
  rcases zE h with ⟨h18, h⟩ | ⟨h18, h⟩
  ·
   refine o_s (.ref 1 16) (gy rfl rfl rfl h18) rfl rfl rfl (o_s (.y p0.B) (gy rfl rfl rfl h18) rfl rfl rfl (o_c (gy rfl rfl rfl h18) rfl rfl rfl (lenE _ _) trivial (o_s (.b (decide ((p0.B.length : Int) ≤ 1024))) (gy rfl rfl rfl h18) rfl rfl rfl (o_pT (.b (decide ((p0.B.length : Int) ≤ 1024))) h18 rfl (o_1 (.b (decide ((p0.B.length : Int) ≤ 1024))) rfl (zA (zH ?_)))))))
   cases h
   exact end0 rfl .r
  refine o_k4 rfl h18 (o_pF (.b false) h18 rfl (o_1 (.b false) rfl (zA (zH ?_))))
  cases h
  exact end0 rfl .r
 refine c_if h rfl (fun h19 h => c_sr (o_m2 (.ref 1 14) (.s p0.Key) rfl ?_)) fun h19 h => c_sr (o_m2 (.b (p0.Kind == 7)) (.b (p0.Kind == 7)) rfl (zA ?_))
 ·
  refine bi h fun x20 h21 h => o_cA (zBw _ _ h21) (g0 rfl) rfl (.cons .r .nil) rfl (o_1 (.b x20) rfl (zA (zH ?_)))
  cases h
  exact end0 rfl .r
 refine c_if h rfl (fun h22 h => c_sr (o_m2 (.ref 1 14) (.s p0.Key) rfl ?_)) fun h22 h => c_sr (o_m2 (.b (p0.Kind == 8)) (.b (p0.Kind == 8)) rfl (zA ?_))
 ·
  refine bi h fun x23 h24 h => o_cA (zBw _ _ h24) (g0 rfl) rfl (.cons .r .nil) rfl (o_1 (.b x23) rfl ?_)
  rcases zE h with ⟨h25, h⟩ | ⟨h25, h⟩
  ·
   refine o_s (.ref 1 9) (gy rfl rfl rfl h25) rfl rfl rfl (o_s (.i p0.At) (gy rfl rfl rfl h25) rfl rfl rfl (o_s (.b (decide (p0.At ≥ 0))) (gy rfl rfl rfl h25) rfl rfl rfl (o_pT (.b (decide (p0.At ≥ 0))) h25 rfl (o_1 (.b (decide (p0.At ≥ 0))) rfl ?_))))
   rcases zE h with ⟨h26, h⟩ | ⟨h26, h⟩
   ·
    refine o_s (.ref 1 9) (gy rfl rfl rfl h26) rfl rfl rfl (o_s (.i p0.At) (gy rfl rfl rfl h26) rfl rfl rfl (o_s (.b (decide (p0.At ≤ 4096))) (gy rfl rfl rfl h26) rfl rfl rfl (o_pT (.b (decide (p0.At ≤ 4096))) h26 rfl (o_1 (.b (decide (p0.At ≤ 4096))) rfl (zA (zH ?_))))))
    cases h
    exact end0 rfl .r
   refine o_k3 rfl h26 (o_pF (.b false) h26 rfl (o_1 (.b false) rfl (zA (zH ?_))))
   cases h
   exact end0 rfl .r
  refine o_k3 rfl h25 (o_pF (.b false) h25 rfl (o_1 (.b false) rfl (o_k3 rfl rfl (o_pF (.b false) rfl rfl (o_1 (.b false) rfl (zA (zH ?_)))))))
  cases h
  exact end0 rfl .r
 refine c_if h rfl (fun h27 h => c_sr (o_m2 (.ref 1 14) (.s p0.Key) rfl ?_)) fun h27 h => zK (c_sr (o_1 (.b false) rfl (zA (zH ?_))))
 ·
  refine bi h fun x28 h29 h => o_cA (zBw _ _ h29) (g0 rfl) rfl (.cons .r .nil) rfl (o_1 (.b x28) rfl ?_)
  rcases zE h with ⟨h30, h⟩ | ⟨h30, h⟩
  ·
   refine o_s (.ref 1 15) (gy rfl rfl rfl h30) rfl rfl rfl (o_s (.s p0.With) (gy rfl rfl rfl h30) rfl rfl rfl (bi h fun x31 h32 h => o_cA (zBw _ _ h32) (gy rfl rfl rfl h30) rfl (.cons .r .nil) rfl (o_pT (.b x31) h30 rfl (o_1 (.b x31) rfl (zA (zH ?_))))))
   cases h
   exact end0 rfl .r
  refine o_k3 rfl h30 (o_pF (.b false) h30 rfl (o_1 (.b false) rfl (zA (zH ?_))))
  cases h
  exact end0 rfl .r
 cases h
 exact end0 rfl .r
theorem zFL (p0 : zB) (r : Bool) (h : zAN p0 = some r) : FC Tryd.prog 27 [.t (.agg [.lit (.int .i64 p0.Kind), .lit (.int .i64 p0.C.Kind), .lit (.string ⟨⟨p0.C.User⟩⟩), .lit (.string ⟨⟨p0.C.Folder⟩⟩), .lit (.string ⟨⟨p0.C.Name⟩⟩), .lit (.string ⟨⟨p0.C.Other⟩⟩), .lit (.int .i64 p0.C.Role), .lit (.int .i64 p0.C.Version), .seq 1 (zD p0.C.Data), .lit (.int .i64 p0.At), .lit (.int .i64 p0.O.Fuse), .seq 1 (zD p0.O.Choices), .lit (.int .i64 p0.O.Again), .seq 1 (zD p0.O.More), .lit (.string ⟨⟨p0.Key⟩⟩), .lit (.string ⟨⟨p0.With⟩⟩), .seq 1 (zD p0.B)])] [] (.t (.d (.lit (.bool r)))) := by
 refine zAO (rs := [.tmp 2]) (n := 6) Tryd.func27 rfl rfl (Nat.le_of_ble_eq_true rfl) rfl (pins := []) rfl (L := [(0, .t (.agg [.i p0.Kind, .i p0.C.Kind, .s p0.C.User, .s p0.C.Folder, .s p0.C.Name, .s p0.C.Other, .i p0.C.Role, .i p0.C.Version, .y p0.C.Data, .i p0.At, .i p0.O.Fuse, .y p0.O.Choices, .i p0.O.Again, .y p0.O.More, .s p0.Key, .s p0.With, .y p0.B]))]) rfl (c_sr (o_m2 (.box [.i p0.Kind, .i p0.C.Kind, .s p0.C.User, .s p0.C.Folder, .s p0.C.Name, .s p0.C.Other, .i p0.C.Role, .i p0.C.Version, .y p0.C.Data, .i p0.At, .i p0.O.Fuse, .y p0.O.Choices, .i p0.O.Again, .y p0.O.More, .s p0.Key, .s p0.With, .y p0.B]) (.b false) rfl (zA (c_sr (o_1 (.t (.agg [.i p0.Kind, .i p0.C.Kind, .s p0.C.User, .s p0.C.Folder, .s p0.C.Name, .s p0.C.Other, .i p0.C.Role, .i p0.C.Version, .y p0.C.Data, .i p0.At, .i p0.O.Fuse, .y p0.O.Choices, .i p0.O.Again, .y p0.O.More, .s p0.Key, .s p0.With, .y p0.B])) rfl (bi h fun x1 h2 h => o_cA (zGU _ _ h2) (g0 rfl) rfl (.cons .r .nil) rfl (o_m2 (.b (!x1)) (.b (!x1)) rfl (zA (zH ?_)))))))))
 cases h
 exact end0 rfl .r
theorem zGl (p0 : zBV) (r : Bool) (h : zCI p0 = some r) : FC Tryd.prog 16 [.t (.agg [.seq 1 (zD p0.Seed), .lit (.int .i64 p0.Sectors), .lit (.int .i64 p0.Quota), .seq 17 (List.map zF p0.Events)])] [] (.t (.d (.lit (.bool r)))) := by
 refine zAO (rs := [.tmp 2]) (n := 43) Tryd.func16 rfl rfl (Nat.le_of_ble_eq_true rfl) rfl (pins := []) rfl (L := [(0, .t (.agg [.y p0.Seed, .i p0.Sectors, .i p0.Quota, .seq 17 (List.map zF p0.Events)]))]) rfl (c_sr (o_m2 (.box [.y p0.Seed, .i p0.Sectors, .i p0.Quota, .d (.seq 17 (List.map zF p0.Events))]) (.b false) rfl (zA (zX r (fun (_ : Unit) => [(1, .box [.y p0.Seed, .i p0.Sectors, .i p0.Quota, .d (.seq 17 (List.map zF p0.Events))])]) (fun _ => zBy p0) ?_ ?_))))
 ·
  refine c_sr (o_m2 (.ref 1 0) (.y p0.Seed) rfl (o_c (g0 rfl) rfl rfl rfl (lenE _ _) trivial (o_m2 (.b ((p0.Seed.length : Int) != 0)) (.b ((p0.Seed.length : Int) != 0)) rfl ?_)))
  rcases zE h with ⟨h3, h⟩ | ⟨h3, h⟩
  ·
   refine o_s (.ref 1 0) (gy rfl rfl rfl h3) rfl rfl rfl (o_s (.y p0.Seed) (gy rfl rfl rfl h3) rfl rfl rfl (o_c (gy rfl rfl rfl h3) rfl rfl rfl (lenE _ _) trivial (o_s (.b ((p0.Seed.length : Int) != 32)) (gy rfl rfl rfl h3) rfl rfl rfl (o_pT (.b ((p0.Seed.length : Int) != 32)) h3 rfl (o_1 (.b ((p0.Seed.length : Int) != 32)) rfl ?_)))))
   rcases zE h with ⟨h4, h⟩ | ⟨h4, h⟩
   ·
    refine o_k3 rfl h4 (o_pT (.b true) h4 rfl (o_1 (.b true) rfl (o_k3 rfl rfl (o_pT (.b true) rfl rfl (o_1 (.b true) rfl (o_k3 rfl rfl (o_pT (.b true) rfl rfl (o_1 (.b true) rfl (o_k3 rfl rfl ?_)))))))))
    refine o_pT (.b true) rfl rfl (o_1 (.b true) rfl (o_k4 rfl rfl (o_pT (.b true) rfl rfl (zA (c_t rfl rfl (c_sr (o_1 (.b false) rfl (zA (zH ?_)))))))))
    cases h
    exact end0 rfl .r
   refine o_s (.ref 1 1) (gy rfl rfl rfl h4) rfl rfl rfl (o_s (.i p0.Sectors) (gy rfl rfl rfl h4) rfl rfl rfl (o_s (.b (decide (p0.Sectors < 0))) (gy rfl rfl rfl h4) rfl rfl rfl (o_pF (.b (decide (p0.Sectors < 0))) h4 rfl (o_1 (.b (decide (p0.Sectors < 0))) rfl ?_))))
   rcases zE h with ⟨h5, h⟩ | ⟨h5, h⟩
   ·
    refine o_k3 rfl h5 (o_pT (.b true) h5 rfl (o_1 (.b true) rfl (o_k3 rfl rfl (o_pT (.b true) rfl rfl (o_1 (.b true) rfl (o_k3 rfl rfl (o_pT (.b true) rfl rfl (o_1 (.b true) rfl (o_k4 rfl rfl ?_)))))))))
    refine o_pT (.b true) rfl rfl (zA (c_t rfl rfl (c_sr (o_1 (.b false) rfl (zA (zH ?_))))))
    cases h
    exact end0 rfl .r
   refine o_s (.ref 1 1) (gy rfl rfl rfl h5) rfl rfl rfl (o_s (.i p0.Sectors) (gy rfl rfl rfl h5) rfl rfl rfl (o_s (.b (decide (p0.Sectors > 1073741824))) (gy rfl rfl rfl h5) rfl rfl rfl (o_pF (.b (decide (p0.Sectors > 1073741824))) h5 rfl (o_1 (.b (decide (p0.Sectors > 1073741824))) rfl ?_))))
   rcases zE h with ⟨h6, h⟩ | ⟨h6, h⟩
   ·
    refine o_k3 rfl h6 (o_pT (.b true) h6 rfl (o_1 (.b true) rfl (o_k3 rfl rfl (o_pT (.b true) rfl rfl (o_1 (.b true) rfl (o_k4 rfl rfl (o_pT (.b true) rfl rfl (zA ?_))))))))
    refine c_t rfl rfl (c_sr (o_1 (.b false) rfl (zA (zH ?_))))
    cases h
    exact end0 rfl .r
   refine o_s (.ref 1 2) (gy rfl rfl rfl h6) rfl rfl rfl (o_s (.i p0.Quota) (gy rfl rfl rfl h6) rfl rfl rfl (o_s (.b (decide (p0.Quota < 0))) (gy rfl rfl rfl h6) rfl rfl rfl (o_pF (.b (decide (p0.Quota < 0))) h6 rfl (o_1 (.b (decide (p0.Quota < 0))) rfl ?_))))
   rcases zE h with ⟨h7, h⟩ | ⟨h7, h⟩
   ·
    refine o_k3 rfl h7 (o_pT (.b true) h7 rfl (o_1 (.b true) rfl (o_k4 rfl rfl (o_pT (.b true) rfl rfl (zA (c_t rfl rfl (c_sr (o_1 (.b false) rfl (zA (zH ?_))))))))))
    cases h
    exact end0 rfl .r
   refine o_s (.ref 1 2) (gy rfl rfl rfl h7) rfl rfl rfl (o_s (.i p0.Quota) (gy rfl rfl rfl h7) rfl rfl rfl (o_s (.b (decide (p0.Quota > 1073741824))) (gy rfl rfl rfl h7) rfl rfl rfl (o_pF (.b (decide (p0.Quota > 1073741824))) h7 rfl (o_1 (.b (decide (p0.Quota > 1073741824))) rfl ?_))))
   rcases zE h with ⟨h8, h⟩ | ⟨h8, h⟩
   ·
    refine o_k4 rfl h8 (o_pT (.b true) h8 rfl (zA (c_t rfl rfl (c_sr (o_1 (.b false) rfl (zA (zH ?_)))))))
    cases h
    exact end0 rfl .r
   refine o_s (.ref 1 3) (gy rfl rfl rfl h8) rfl rfl rfl (o_s (.t (.d (.seq 17 (List.map zF p0.Events)))) (gy rfl rfl rfl h8) rfl rfl rfl (o_c (gy rfl rfl rfl h8) rfl rfl rfl (lenE _ _) trivial (o_s (.b (decide ((p0.Events.length : Int) > 4096))) (gy rfl rfl rfl h8) rfl rfl rfl (o_pF (.b (decide ((p0.Events.length : Int) > 4096))) h8 rfl (zA ?_)))))
   refine c_if h rfl (fun h9 h => c_sr (o_1 (.b false) rfl (zA (zH ?_)))) fun h9 h => zK ?_
   ·
    cases h
    exact end0 rfl .r
   exact lE () h rfl rfl
  refine o_k4 rfl h3 (o_pF (.b false) h3 rfl (o_1 (.b false) rfl (o_s (.ref 1 1) (gy rfl rfl rfl rfl) rfl rfl rfl (o_s (.i p0.Sectors) (gy rfl rfl rfl rfl) rfl rfl rfl (o_s (.b (decide (p0.Sectors < 0))) (gy rfl rfl rfl rfl) rfl rfl rfl (o_pF (.b (decide (p0.Sectors < 0))) rfl rfl (o_1 (.b (decide (p0.Sectors < 0))) rfl ?_)))))))
  rcases zE h with ⟨h10, h⟩ | ⟨h10, h⟩
  ·
   refine o_k3 rfl h10 (o_pT (.b true) h10 rfl (o_1 (.b true) rfl (o_k3 rfl rfl (o_pT (.b true) rfl rfl (o_1 (.b true) rfl (o_k3 rfl rfl (o_pT (.b true) rfl rfl (o_1 (.b true) rfl (o_k4 rfl rfl ?_)))))))))
   refine o_pT (.b true) rfl rfl (zA (c_t rfl rfl (c_sr (o_1 (.b false) rfl (zA (zH ?_))))))
   cases h
   exact end0 rfl .r
  refine o_s (.ref 1 1) (gy rfl rfl rfl h10) rfl rfl rfl (o_s (.i p0.Sectors) (gy rfl rfl rfl h10) rfl rfl rfl (o_s (.b (decide (p0.Sectors > 1073741824))) (gy rfl rfl rfl h10) rfl rfl rfl (o_pF (.b (decide (p0.Sectors > 1073741824))) h10 rfl (o_1 (.b (decide (p0.Sectors > 1073741824))) rfl ?_))))
  rcases zE h with ⟨h11, h⟩ | ⟨h11, h⟩
  ·
   refine o_k3 rfl h11 (o_pT (.b true) h11 rfl (o_1 (.b true) rfl (o_k3 rfl rfl (o_pT (.b true) rfl rfl (o_1 (.b true) rfl (o_k4 rfl rfl (o_pT (.b true) rfl rfl (zA ?_))))))))
   refine c_t rfl rfl (c_sr (o_1 (.b false) rfl (zA (zH ?_))))
   cases h
   exact end0 rfl .r
  refine o_s (.ref 1 2) (gy rfl rfl rfl h11) rfl rfl rfl (o_s (.i p0.Quota) (gy rfl rfl rfl h11) rfl rfl rfl (o_s (.b (decide (p0.Quota < 0))) (gy rfl rfl rfl h11) rfl rfl rfl (o_pF (.b (decide (p0.Quota < 0))) h11 rfl (o_1 (.b (decide (p0.Quota < 0))) rfl ?_))))
  rcases zE h with ⟨h12, h⟩ | ⟨h12, h⟩
  ·
   refine o_k3 rfl h12 (o_pT (.b true) h12 rfl (o_1 (.b true) rfl (o_k4 rfl rfl (o_pT (.b true) rfl rfl (zA (c_t rfl rfl (c_sr (o_1 (.b false) rfl (zA (zH ?_))))))))))
   cases h
   exact end0 rfl .r
  refine o_s (.ref 1 2) (gy rfl rfl rfl h12) rfl rfl rfl (o_s (.i p0.Quota) (gy rfl rfl rfl h12) rfl rfl rfl (o_s (.b (decide (p0.Quota > 1073741824))) (gy rfl rfl rfl h12) rfl rfl rfl (o_pF (.b (decide (p0.Quota > 1073741824))) h12 rfl (o_1 (.b (decide (p0.Quota > 1073741824))) rfl ?_))))
  rcases zE h with ⟨h13, h⟩ | ⟨h13, h⟩
  ·
   refine o_k4 rfl h13 (o_pT (.b true) h13 rfl (zA (c_t rfl rfl (c_sr (o_1 (.b false) rfl (zA (zH ?_)))))))
   cases h
   exact end0 rfl .r
  refine o_s (.ref 1 3) (gy rfl rfl rfl h13) rfl rfl rfl (o_s (.t (.d (.seq 17 (List.map zF p0.Events)))) (gy rfl rfl rfl h13) rfl rfl rfl (o_c (gy rfl rfl rfl h13) rfl rfl rfl (lenE _ _) trivial (o_s (.b (decide ((p0.Events.length : Int) > 4096))) (gy rfl rfl rfl h13) rfl rfl rfl (o_pF (.b (decide ((p0.Events.length : Int) > 4096))) h13 rfl (zA ?_)))))
  refine c_if h rfl (fun h14 h => c_sr (o_1 (.b false) rfl (zA (zH ?_)))) fun h14 h => zK ?_
  ·
   cases h
   exact end0 rfl .r
  exact lE () h rfl rfl
 rintro ⟨⟩ h
 refine c_sr (o_m2 (.ref 1 3) (.t (.d (.seq 17 (List.map zF p0.Events)))) rfl (bi h fun x1 h2 h => o_cA (zCT _ 27 [] _ zFL ⟨_, Tryd.func27, rfl, rfl⟩ _ h2) (g0 rfl) rfl (.cons .r (.cons (.t (.d (.fn _))) .nil)) rfl (o_m2 (.b (!x1)) (.b (!x1)) rfl (zA (zH ?_)))))
 cases h
 exact end0 rfl .r
theorem zFz (p0 : (List UInt8)) (p1 : UInt8) (w0 : Hp) (r : Bool) (h : zCu p0 p1 = some r) : FCH Tryd.prog 4 [.t (.agg (ar cU8 (0 : UInt8) p0 0 32)), .t (.d (.lit (.int .u8 (p1.toNat : Int))))] [] [] (hpA w0) (hpA w0) (.t (.d (.lit (.bool r)))) := by
 refine zBM (rs := [.tmp 4]) (n := 57) [] Tryd.func4 rfl rfl (Nat.le_of_ble_eq_true rfl) rfl (pins := []) rfl (L := [(HK, .hp (hpA w0)), (0, .t (.agg (ar cU8 (0 : UInt8) p0 0 32))), (1, .t (.d (.lit (.int .u8 (p1.toNat : Int)))))]) rfl (c_sr (o_s (.box (List.map T.d (ar cU8 (0 : UInt8) p0 0 32))) (g0 rfl) rfl rfl (by kernel_rfl) (o_1 (.b false) rfl (zA (zM (c_sr (bi h fun x1 h2 h => o_cH (zGf w0 _ h2) (g0 rfl) rfl .nil (r1 rfl) (o_1 (.b (!x1)) rfl (zA ?_)))))))))
 refine c_if h rfl (fun h3 h => c_sr (o_1 (.b false) rfl (zA (zH ?_)))) fun h3 h => zK (c_sr (o_m4 (.t (.d (.lit (.int .u8 (p1.toNat : Int))))) (.t (.d (.lit (.int .u8 (Int.tmod (p1.toNat : Int) 40))))) (.i (wi (Int.tmod (p1.toNat : Int) 40))) (.i (wi (Int.tmod (p1.toNat : Int) 40))) rfl (zA (c_sr (o_s (.t (.agg (ar cU8 (0 : UInt8) p0 0 32))) (g0 rfl) rfl rfl (by kernel_rfl) (o_1 (.i (wi (Int.tmod (p1.toNat : Int) 40))) rfl ?_))))))
 ·
  cases h; exact eR rfl rfl
 refine bi h fun x4 h5 h => o_cH (zFy _ _ w0 _ h5) (g0 rfl) rfl (a2 (aR rfl) (aR rfl)) (r2 rfl) (o_m5 (.tup [.d (.seq 17 (List.map zF x4.1)), .i x4.2]) (.t (.d (.seq 17 (List.map zF x4.1)))) (.i x4.2) (.t (.d (.seq 17 (List.map zF x4.1)))) (.i x4.2) rfl (zA (c_sr (o_s (.t (.agg (ar cU8 (0 : UInt8) p0 0 32))) (g0 rfl) rfl rfl (by kernel_rfl) (o_1 (.i (wi (Int.tmod (p1.toNat : Int) 40))) rfl ?_)))))
 refine bi h fun x6 h7 h => o_cH (zFu _ _ w0 _ h7) (g0 rfl) rfl (a2 (aR rfl) (aR rfl)) (r1 rfl) (o_2 (.t (.d (.seq 17 (List.map zF x6)))) (.t (.own 46 17 (List.map zF x6))) (g0 rfl) rfl rfl rfl (zA (zM (c_sr (o_m3 (.i x4.2) (.b (x4.2 != 0)) (.b (x4.2 != 0)) rfl ?_)))))
 rcases zE h with ⟨h8, h⟩ | ⟨h8, h⟩
 ·
  refine o_k4 rfl h8 (o_k1 rfl h8 (o_pT (.b true) h8 rfl (zA (c_t rfl rfl (c_sr (o_1 (.b false) rfl (zA (zH ?_))))))))
  cases h; exact eR rfl rfl
 refine o_s (.t (.d (.seq 17 (List.map zF x4.1)))) (gy rfl rfl rfl h8) rfl rfl rfl (o_c (gy rfl rfl rfl h8) rfl rfl rfl (lenE _ _) trivial (o_s (.t (.d (.seq 17 (List.map zF x6)))) (gy rfl rfl rfl h8) rfl rfl rfl (o_c (gy rfl rfl rfl h8) rfl rfl rfl (lenE _ _) trivial (o_s (.b ((x4.1.length : Int) != (x6.length : Int))) (gy rfl rfl rfl h8) rfl rfl rfl (o_pF (.b ((x4.1.length : Int) != (x6.length : Int))) h8 rfl (zA ?_))))))
 refine c_if h rfl (fun h9 h => c_sr (o_1 (.b false) rfl (zA (zH ?_)))) fun h9 h => zK ?_
 ·
  cases h; exact eR rfl rfl
 refine zX r (fun (_ : Unit) => [(6, .t (.d (.seq 17 (List.map zF x4.1)))), (HK, .hp (hpA w0))]) (fun _ => zCd x4) ?_ ?_
 ·
  refine c_sr (o_1 (.t (.d (.seq 17 (List.map zF x4.1)))) rfl (o_c (g0 rfl) rfl rfl rfl (lenE _ _) trivial (o_1 (.i 0) rfl (zA (zL (c_lp (fun (z12 : Int) => [(6, .t (.d (.seq 17 (List.map zF x4.1)))), (8, .t (.own 46 17 (List.map zF x6))), (34, .t (.d (.seq 17 (List.map zF x4.1)))), (35, .i (x4.1.length : Int)), (36, .i z12), (HK, .hp (hpA w0))]) (fun nl2 z12 => zAg x4 x6 nl2 z12) (x4.1.length + 1) 0 h (fun _ => rfl) rfl rfl ?_))))))
  rintro nl2 z12 h
  refine c_sr (o_1 (.b (decide (z12 < (x4.1.length : Int)))) rfl (zA (zM (c_if h rfl (fun h13 h => zK (zM (zL (c_sr (o_1 (.i z12) rfl ?_))))) fun h13 h => qU ?_))))
  ·
   refine bi h fun x14 h15 h => o_c (g0 rfl) rfl rfl rfl (idxE h15) (idxC h15) (o_m3 (.t (.agg [.i x14.Kind, .i x14.C.Kind, .s x14.C.User, .s x14.C.Folder, .s x14.C.Name, .s x14.C.Other, .i x14.C.Role, .i x14.C.Version, .y x14.C.Data, .i x14.At, .i x14.O.Fuse, .y x14.O.Choices, .i x14.O.Again, .y x14.O.More, .s x14.Key, .s x14.With, .y x14.B])) (.box [.i 0, .i 0, .s [], .s [], .s [], .s [], .i 0, .i 0, .n, .i 0, .i 0, .n, .i 0, .n, .s [], .s [], .n]) (.i z12) rfl (o_st (.box [.i x14.Kind, .i x14.C.Kind, .s x14.C.User, .s x14.C.Folder, .s x14.C.Name, .s x14.C.Other, .i x14.C.Role, .i x14.C.Version, .y x14.C.Data, .i x14.At, .i x14.O.Fuse, .y x14.O.Choices, .i x14.O.Again, .y x14.O.More, .s x14.Key, .s x14.With, .y x14.B]) (g0 rfl) rfl rfl rfl (zA (zM (zBN zC8 (by kernel_rfl) (d_1 (.t (.agg [.i x14.Kind, .i x14.C.Kind, .s x14.C.User, .s x14.C.Folder, .s x14.C.Name, .s x14.C.Other, .i x14.C.Role, .i x14.C.Version, .y x14.C.Data, .i x14.At, .i x14.O.Fuse, .y x14.O.Choices, .i x14.O.Again, .y x14.O.More, .s x14.Key, .s x14.With, .y x14.B])) rfl rfl (d_1 (.t (.d (.seq 17 (List.map zF x6)))) rfl rfl (d_1 (.i z12) rfl rfl ?_))))))))
   refine bi h fun x16 h17 h => d_c rfl (dg0 rfl) rfl rfl rfl rfl (idxE h17) (idxC h17) (d_1 (.t (.agg [.i x16.Kind, .i x16.C.Kind, .s x16.C.User, .s x16.C.Folder, .s x16.C.Name, .s x16.C.Other, .i x16.C.Role, .i x16.C.Version, .y x16.C.Data, .i x16.At, .i x16.O.Fuse, .y x16.O.Choices, .i x16.O.Again, .y x16.O.More, .s x16.Key, .s x16.With, .y x16.B])) rfl rfl (bi h fun x18 h19 h => d_ca (zFH _ _ _ h19) rfl (dg0 rfl) rfl rfl rfl rfl rfl rfl rfl rfl (.cons .r (.cons .r .nil)) rfl rfl (d_1 (.b (!x18)) rfl rfl (d_1 (.b (!x18)) rfl rfl ?_))))
   rcases zE h with ⟨h20, h⟩ | ⟨h20, h⟩
   ·
    refine d_k1 rfl rfl h20 (d_k1 rfl rfl h20 (d_k1 rfl rfl h20 (d_pT (.b true) h20 rfl rfl (zCi (by kernel_rfl) (c_t rfl rfl (c_sr (o_1 (.b false) rfl (zA (zH ?_)))))))))
    cases h; exact eR rfl rfl
   refine d_s (.t (.agg [.i x14.Kind, .i x14.C.Kind, .s x14.C.User, .s x14.C.Folder, .s x14.C.Name, .s x14.C.Other, .i x14.C.Role, .i x14.C.Version, .y x14.C.Data, .i x14.At, .i x14.O.Fuse, .y x14.O.Choices, .i x14.O.Again, .y x14.O.More, .s x14.Key, .s x14.With, .y x14.B])) rfl (dgy rfl rfl rfl rfl h20) rfl rfl rfl rfl (bi h fun x21 h22 h => d_ca (zFo _ _ h22) rfl (dgy rfl rfl rfl rfl h20) rfl rfl rfl rfl rfl rfl rfl rfl (.cons .r .nil) rfl rfl (d_s (.b (!x21)) rfl (dgy rfl rfl rfl rfl h20) rfl rfl rfl rfl (d_pF (.b (!x21)) h20 rfl rfl (zCi (by kernel_rfl) ?_))))
   refine c_if h rfl (fun h23 h => c_sr (o_1 (.b false) rfl (zA (zH ?_)))) fun h23 h => zK (zG (o_m2 (.i (wi (z12 + 1))) (.i (wi (z12 + 1))) rfl (zA ?_)))
   ·
    cases h; exact eR rfl rfl
   exact lE (wi (z12 + 1)) h rfl rfl
  exact lE () h rfl rfl
 rintro ⟨⟩ h
 refine c_sr (o_m2 (.t (.d (.seq 17 (List.map zF x4.1)))) (.t (.agg [.n, .i 0, .i 0, .seq 17 (List.map zF x4.1)])) rfl (bi h fun x10 h11 h => o_cA (zGl _ _ h11) (g0 rfl) rfl (.cons (.t (.agg (.cons (.nil _) (.cons .r (.cons .r (.cons .r .nil)))))) .nil) rfl (o_1 (.b x10) rfl (zA (zH ?_)))))
 cases h; exact eR rfl rfl
end Go.Proofs.YtmgafkpkpmjieaaDoor

/-
 Small plain laws for models: indexes, pieces, numbers of 64 bits, bytes as numbers.
-/
namespace Go.Proofs.YtmgafkpkpmjieaaDoor
open Go Go.RowKit
set_option linter.unusedVariables false
set_option linter.unusedSimpArgs false
theorem zEY {z : Int} (h1 : -9223372036854775808 ≤ z) (h2 : z ≤ 9223372036854775807) : wi z = z := wrap_id h1 h2
theorem zAc {n : Nat} (h : n < 9223372036854775807) : wi ((n : Int) + 1) = ((n + 1 : Nat) : Int) := by rw [zEY (by omega) (by omega)]; omega
theorem zC6 {α : Type} {l : List α} {i : Nat} (h : i < l.length) : idx l (i : Int) = some l[i] := by
 unfold idx
 rw [show decide (0 ≤ (i : Int)) = true from by simp]
 show l[(i : Int).toNat]? = _
 rw [Int.toNat_natCast, List.getElem?_eq_getElem h]
theorem zGS {α : Type} {x : α} {l : List α} : idx (x :: l) 0 = some x := rfl
theorem zEn {α : Type} {l : List α} {n : Nat} (h : n ≤ l.length) : cutI l 0 (n : Int) = some (l.take n) := by
 unfold cutI
 rw [if_pos ⟨by omega, by omega, by omega⟩]
 simp
theorem yV {α : Type} {nb : Nat} {l l' : List α} (h : (l.length + l'.length) * nb ≤ 140737488355328) : appI nb l l' = some (l ++ l') := by
 unfold appI
 rw [if_pos h]
theorem zEs {α : Type} {c : Bool} {a b : α} (h : c = true) : (bif c then a else b) = a := by rw [h]; rfl
theorem zDF {α : Type} {c : Bool} {a b : α} (h : c = false) : (bif c then a else b) = b := by rw [h]; rfl
theorem yX {p : Prop} [Decidable p] (h : p) : decide p = true := decide_eq_true h
theorem yB {p : Prop} [Decidable p] (h : ¬ p) : decide p = false := decide_eq_false h
theorem ieq_t {a b : Int} (h : a = b) : (a == b) = true := by simp [h]
theorem ieq_f {a b : Int} (h : a ≠ b) : (a == b) = false := by simp [h]
theorem ine_t {a b : Int} (h : a ≠ b) : (a != b) = true := by simp [h]
theorem zFl {a b : Int} (h : a = b) : (a != b) = false := by simp [h]
theorem zGE {z : Int} (h1 : 0 ≤ z) (h2 : z ≤ 18446744073709551615) : IntKind.u64.wrap z = z := by
 simp [IntKind.wrap, IntKind.bits, IntKind.signed]
 omega
theorem get_step (x c : Nat) (hx : x < 72057594037927936) (hc : c < 256) : IntKind.u64.wrap ((((BitVec.ofInt IntKind.u64.bits (IntKind.u64.wrap ((x : Int) * 2 ^ 8))) ||| (BitVec.ofInt IntKind.u64.bits (c : Int))).toNat : Nat) : Int) = ((x * 256 + c : Nat) : Int) := by
 have h1 : IntKind.u64.wrap ((x : Int) * 2 ^ 8) = ((x * 256 : Nat) : Int) := by rw [zGE (by omega) (by omega)]; omega
 rw [h1]
 have h2 : (BitVec.ofInt 64 ((x * 256 : Nat) : Int) ||| BitVec.ofInt 64 (c : Int)).toNat = x * 256 + c := by
  rw [BitVec.toNat_or, BitVec.ofInt_natCast, BitVec.ofInt_natCast, BitVec.toNat_ofNat, BitVec.toNat_ofNat, Nat.mod_eq_of_lt (by omega), Nat.mod_eq_of_lt (by omega)]
  have := Nat.shiftLeft_add_eq_or_of_lt (i := 8) (b := c) (by omega) x
  rw [Nat.shiftLeft_eq] at this
  exact this.symm
 show IntKind.u64.wrap ((BitVec.ofInt 64 ((x * 256 : Nat) : Int) ||| BitVec.ofInt 64 (c : Int)).toNat : Int) = _
 rw [h2, zGE (by omega) (by omega)]
end Go.Proofs.YtmgafkpkpmjieaaDoor

/-
 Loops of models: what they tell, where they go on, what they gather.
-/
namespace Go.Proofs.YtmgafkpkpmjieaaDoor
open Go Go.RowKit
set_option linter.unusedVariables false
set_option linter.unusedSimpArgs false
def zFE (x : Option Bool) (p : Prop) : Prop := ∃ r, x = some r ∧ (r = true ↔ p)
theorem zFE.yes {x : Option Bool} {p : Prop} (h : zFE x p) (hp : p) : x = some true := by
 obtain ⟨r, h1, h2⟩ := h
 rw [h1, h2.2 hp]
theorem zFE.no {x : Option Bool} {p : Prop} (h : zFE x p) (hp : ¬ p) : x = some false := by
 obtain ⟨r, h1, h2⟩ := h
 cases r with
 | false => exact h1
 | true => exact absurd (h2.1 rfl) hp
theorem zFE.of {b : Bool} {p : Prop} (h : b = true ↔ p) : zFE (some b) p := ⟨b, rfl, h⟩
theorem zFE.bool {x : Option Bool} {b : Bool} (h : zFE x (b = true)) : x = some b := by
 cases b with
 | true => exact h.yes rfl
 | false => exact h.no (by simp)
end Go.Proofs.YtmgafkpkpmjieaaDoor

/-
 Numbers of 64 bits: operations on bits, told by naturals.
-/
namespace Go.Proofs.YtmgafkpkpmjieaaDoor
open Go Go.RowKit
set_option linter.unusedVariables false
set_option linter.unusedSimpArgs false
theorem zDC {a b : Nat} (ha : a < 18446744073709551616) (hb : b < 18446744073709551616) : IntKind.u64.wrap ((((BitVec.ofInt IntKind.u64.bits (a : Int)) &&& (BitVec.ofInt IntKind.u64.bits (b : Int))).toNat : Nat) : Int) = ((a &&& b : Nat) : Int) := by
 have h2 : (BitVec.ofInt 64 (a : Int) &&& BitVec.ofInt 64 (b : Int)).toNat = a &&& b := by
  rw [BitVec.toNat_and, BitVec.ofInt_natCast, BitVec.ofInt_natCast, BitVec.toNat_ofNat, BitVec.toNat_ofNat, Nat.mod_eq_of_lt (by omega), Nat.mod_eq_of_lt (by omega)]
 show IntKind.u64.wrap ((BitVec.ofInt 64 (a : Int) &&& BitVec.ofInt 64 (b : Int)).toNat : Int) = _
 have h3 : a &&& b < 18446744073709551616 := Nat.and_lt_two_pow (n := 64) a hb
 rw [h2, zGE (by omega) (by omega)]
theorem zBo {a b : Nat} (ha : a < 18446744073709551616) (hb : b < 18446744073709551616) : IntKind.u64.wrap ((((BitVec.ofInt IntKind.u64.bits (a : Int)) ^^^ (BitVec.ofInt IntKind.u64.bits (b : Int))).toNat : Nat) : Int) = ((a ^^^ b : Nat) : Int) := by
 have h2 : (BitVec.ofInt 64 (a : Int) ^^^ BitVec.ofInt 64 (b : Int)).toNat = a ^^^ b := by
  rw [BitVec.toNat_xor, BitVec.ofInt_natCast, BitVec.ofInt_natCast, BitVec.toNat_ofNat, BitVec.toNat_ofNat, Nat.mod_eq_of_lt (by omega), Nat.mod_eq_of_lt (by omega)]
 show IntKind.u64.wrap ((BitVec.ofInt 64 (a : Int) ^^^ BitVec.ofInt 64 (b : Int)).toNat : Int) = _
 have h3 : a ^^^ b < 18446744073709551616 := Nat.xor_lt_two_pow (n := 64) ha hb
 rw [h2, zGE (by omega) (by omega)]
theorem zII {a b : Nat} (ha : a < 18446744073709551616) (hb : b < 18446744073709551616) : IntKind.u64.wrap ((((BitVec.ofInt IntKind.u64.bits (a : Int)) ||| (BitVec.ofInt IntKind.u64.bits (b : Int))).toNat : Nat) : Int) = ((a ||| b : Nat) : Int) := by
 have h2 : (BitVec.ofInt 64 (a : Int) ||| BitVec.ofInt 64 (b : Int)).toNat = a ||| b := by
  rw [BitVec.toNat_or, BitVec.ofInt_natCast, BitVec.ofInt_natCast, BitVec.toNat_ofNat, BitVec.toNat_ofNat, Nat.mod_eq_of_lt (by omega), Nat.mod_eq_of_lt (by omega)]
 show IntKind.u64.wrap ((BitVec.ofInt 64 (a : Int) ||| BitVec.ofInt 64 (b : Int)).toNat : Int) = _
 have h3 : a ||| b < 18446744073709551616 := Nat.or_lt_two_pow (n := 64) ha hb
 rw [h2, zGE (by omega) (by omega)]
theorem shr_nat {a b : Nat} (hb : b < 64) : shrI .u64 (a : Int) (b : Int) = some ((a >>> b : Nat) : Int) := by
 unfold shrI
 rw [yX (by omega), cond_true, Int.toNat_natCast, show min b IntKind.u64.bits = b from Nat.min_eq_left (by show b ≤ 64; omega), Nat.shiftRight_eq_div_pow, Int.fdiv_eq_ediv_of_nonneg _ (by exact Int.natCast_nonneg (2 ^ b))]
 congr 1
theorem shl_nat {a b : Nat} (hb : b < 64) : shlI .u64 (a : Int) (b : Int) = some (((a <<< b) % 18446744073709551616 : Nat) : Int) := by
 unfold shlI
 rw [yX (by omega), cond_true, Int.toNat_natCast, show min b IntKind.u64.bits = b from Nat.min_eq_left (by show b ≤ 64; omega), Nat.shiftLeft_eq]
 refine congrArg some ?_
 have e : (a : Int) * 2 ^ b = ((a * 2 ^ b : Nat) : Int) := by simp
 rw [e]
 generalize a * 2 ^ b = x
 simp [IntKind.wrap, IntKind.bits, IntKind.signed]
theorem tmod_nat (a b : Nat) : Int.tmod (a : Int) (b : Int) = ((a % b : Nat) : Int) := rfl
theorem zIM (a b : Nat) : Int.tdiv (a : Int) (b : Int) = ((a / b : Nat) : Int) := rfl
theorem zAy {a : Nat} (h : a < 18446744073709551616) : IntKind.u64.wrap (a : Int) = (a : Int) := zGE (by omega) (by omega)
theorem zBJ {a : Nat} (h : a < 9223372036854775808) : wi (a : Int) = (a : Int) := zEY (by omega) (by omega)
def rotr (x a : Nat) : Nat := x / 2 ^ a + x % 2 ^ a * 2 ^ (64 - a)
theorem zBr {x a : Nat} (hx : x < 18446744073709551616) (ha : a ≤ 64) : rotr x a < 18446744073709551616 := by
 have h1 : x / 2 ^ a < 2 ^ (64 - a) := by
  rw [Nat.div_lt_iff_lt_mul (Nat.two_pow_pos a), ← Nat.pow_add, show 64 - a + a = 64 by omega]
  exact hx
 have h2 : x % 2 ^ a + 1 ≤ 2 ^ a := Nat.mod_lt _ (Nat.two_pow_pos a)
 have h3 : (x % 2 ^ a + 1) * 2 ^ (64 - a) ≤ 2 ^ a * 2 ^ (64 - a) := Nat.mul_le_mul_right _ h2
 rw [← Nat.pow_add, show a + (64 - a) = 64 by omega, Nat.add_mul, Nat.one_mul] at h3
 have e : (2 : Nat) ^ 64 = 18446744073709551616 := rfl
 unfold rotr
 omega
theorem rotr_or {x a : Nat} (hx : x < 18446744073709551616) (ha : a ≤ 64) : (x <<< (64 - a)) % 18446744073709551616 ||| x >>> a = rotr x a := by
 have h1 : x >>> a < 2 ^ (64 - a) := by
  rw [Nat.shiftRight_eq_div_pow, Nat.div_lt_iff_lt_mul (Nat.two_pow_pos a), ← Nat.pow_add, show 64 - a + a = 64 by omega]
  exact hx
 have h2 : (x <<< (64 - a)) % 18446744073709551616 = (x % 2 ^ a) <<< (64 - a) := by
  rw [Nat.shiftLeft_eq, Nat.shiftLeft_eq, show (18446744073709551616 : Nat) = 2 ^ a * 2 ^ (64 - a) by rw [← Nat.pow_add, show a + (64 - a) = 64 by omega], Nat.mul_mod_mul_right]
 rw [h2, ← Nat.shiftLeft_add_eq_or_of_lt h1, Nat.shiftLeft_eq, Nat.shiftRight_eq_div_pow]
 unfold rotr
 omega
end Go.Proofs.YtmgafkpkpmjieaaDoor

/-
 The plain law of the sums: turned words.
-/
namespace Go.Proofs.YtmgafkpkpmjieaaDoor
open Go Go.RowKit
set_option linter.unusedVariables false
theorem zHc {x a : Nat} {p : Int} (hx : x < 18446744073709551616) (h0 : 0 < a) (ha : a < 64) (hp : IntKind.u64.wrap ((((BitVec.ofInt IntKind.u64.bits (IntKind.u64.wrap p)) &&& (BitVec.ofInt IntKind.u64.bits 63)).toNat : Nat) : Int) = ((64 - a : Nat) : Int)) : zN (x : Int) p = some ((rotr x a : Nat) : Int) := by
 unfold zN
 rw [hp, shl_nat (by omega), Option.bind_some, show (64 : Int) - ((64 - a : Nat) : Int) = ((a : Nat) : Int) by omega, zAy (by omega), shr_nat (by omega), Option.bind_some]
 have h1 : x >>> a < 18446744073709551616 := Nat.lt_of_le_of_lt (Nat.shiftRight_le x a) hx
 rw [zII (Nat.mod_lt _ (by decide)) h1, rotr_or hx (by omega)]
theorem zGh {n : Nat} (h : n ≤ 63) : 2 ^ n ≤ 9223372036854775808 := Nat.pow_le_pow_right (by decide) h
theorem n_turn_j1 {x a : Nat} (hx : x < 18446744073709551616) (h0 : 0 < a) (ha : a < 64) : zCY (x : Int) ((2 ^ a : Nat) : Int) = some ((rotr x a : Nat) : Int) := by
 have hpos : 0 < 2 ^ a := Nat.two_pow_pos a
 have hle := zGh (n := a) (by omega)
 have hne : (((2 ^ a : Nat) : Int) != 0) = true := by simpa using (by omega : ¬ ((2 ^ a : Nat) : Int) = 0)
 have q : ∀ y : Nat, y < 18446744073709551616 → quoI .u64 (y : Int) ((2 ^ a : Nat) : Int) = some ((y / 2 ^ a : Nat) : Int) := fun y hy => by
  unfold quoI
  rw [hne, cond_true, zIM, zAy (Nat.lt_of_le_of_lt (Nat.div_le_self _ _) hy)]
 have r : remI .u64 (x : Int) ((2 ^ a : Nat) : Int) = some ((x % 2 ^ a : Nat) : Int) := by
  unfold remI
  rw [hne, cond_true, tmod_nat]
 have e1 : 9223372036854775808 / 2 ^ a * 2 = 2 ^ (64 - a) := by
  rw [show (9223372036854775808 : Nat) = 2 ^ (63 - a) * 2 ^ a by rw [← Nat.pow_add, show 63 - a + a = 63 by omega], Nat.mul_div_cancel _ hpos, ← Nat.pow_succ, show (63 - a).succ = 64 - a by omega]
 have l1 := zGh (n := 64 - a) (by omega)
 have lt := zBr hx (a := a) (by omega)
 have lt2 : x % 2 ^ a * 2 ^ (64 - a) < 18446744073709551616 := Nat.lt_of_le_of_lt (Nat.le_add_left _ _) lt
 unfold zCY
 rw [q x hx, Option.bind_some, r, Option.bind_some, show (9223372036854775808 : Int) = ((9223372036854775808 : Nat) : Int) from rfl, q _ (by decide), Option.bind_some]
 rw [show ((9223372036854775808 / 2 ^ a : Nat) : Int) * 2 = ((2 ^ (64 - a) : Nat) : Int) by rw [← e1]; simp, zAy (by omega), ← Int.natCast_mul, zAy lt2, ← Int.natCast_add]
 show some (IntKind.u64.wrap ((rotr x a : Nat) : Int)) = _
 rw [zAy lt]
theorem zH3 {x a : Nat} (hx : x < 18446744073709551616) (h0 : 0 < a) (ha : a < 64) : ∀ (k n : Nat), n + k = a → ∀ fuel, k < fuel → zBD (a : Int) (x : Int) fuel ((2 ^ n : Nat) : Int) (n : Int) = some ((rotr x a : Nat) : Int)
 | 0, n, hn, fuel + 1, hf => by
  unfold zBD
  rw [yB (by omega), cond_false, show n = a by omega]
  exact n_turn_j1 hx h0 ha
 | k + 1, n, hn, fuel + 1, hf => by
  unfold zBD
  have h2 := zGh (n := n + 1) (by omega)
  have e : ((2 ^ n : Nat) : Int) * 2 = ((2 ^ (n + 1) : Nat) : Int) := by rw [Nat.pow_succ]; simp
  rw [yX (by omega), cond_true, e, zAy (by omega), show (n : Int) + 1 = ((n + 1 : Nat) : Int) by omega, zBJ (by omega)]
  exact zH3 hx h0 ha k (n + 1) (by omega) fuel (by omega)
theorem zET {x a : Nat} (hx : x < 18446744073709551616) (h0 : 0 < a) (ha : a < 64) : zAJ (x : Int) (a : Int) = some ((rotr x a : Nat) : Int) := by
 unfold zAJ
 exact zH3 hx h0 ha a 0 (by omega) _ (by omega)
theorem zHC {a : Nat} (ha : a < 64) : ∀ (k n x : Nat), n + k = a → x < 18446744073709551616 → ∀ fuel, k < fuel → zAu (a : Int) fuel (x : Int) (n : Int) = some ((x / 2 ^ k : Nat) : Int)
 | 0, n, x, hn, hx, fuel + 1, hf => by
  unfold zAu
  rw [yB (by omega), cond_false]
  simp
 | k + 1, n, x, hn, hx, fuel + 1, hf => by
  unfold zAu
  have h2 : x / 2 < 18446744073709551616 := by omega
  rw [yX (by omega), cond_true, show Int.tdiv (x : Int) 2 = ((x / 2 : Nat) : Int) from rfl, zAy h2, show (n : Int) + 1 = ((n + 1 : Nat) : Int) by omega, zBJ (by omega), zHC ha k (n + 1) (x / 2) (by omega) h2 fuel (by omega), Nat.div_div_eq_div_mul, Nat.pow_succ, Nat.mul_comm]
theorem n_shift {x a : Nat} (hx : x < 18446744073709551616) (ha : a < 64) : zBS (x : Int) (a : Int) = some ((x / 2 ^ a : Nat) : Int) := by
 unfold zBS
 exact zHC ha a 0 x (by omega) hx _ (by omega)
end Go.Proofs.YtmgafkpkpmjieaaDoor

/-
 The plain law of the sums: choices, majorities, sums of turned words.
-/
namespace Go.Proofs.YtmgafkpkpmjieaaDoor
open Go Go.RowKit
set_option linter.unusedVariables false
theorem all1_bit (i : Nat) : (18446744073709551615 : Nat).testBit i = decide (i < 64) := Nat.testBit_two_pow_sub_one 64 i
theorem bit_lt64 {e i : Nat} (he : e < 18446744073709551616) (h : e.testBit i = true) : i < 64 := by
 refine Nat.lt_of_not_le fun h2 => ?_
 have h3 : (2 : Nat) ^ 64 ≤ 2 ^ i := Nat.pow_le_pow_right (by decide) h2
 have : e.testBit i = false := Nat.testBit_lt_two_pow (Nat.lt_of_lt_of_le he h3)
 rw [this] at h
 cases h
theorem not64 {e : Nat} (he : e < 18446744073709551616) : 18446744073709551615 ^^^ e = 18446744073709551615 - e := by
 have h := BitVec.toNat_not (x := BitVec.ofNat 64 e)
 rw [BitVec.toNat_ofNat, Nat.mod_eq_of_lt he] at h
 have h2 : (BitVec.allOnes 64 ^^^ BitVec.ofNat 64 e).toNat = 18446744073709551615 ^^^ e := by
  rw [BitVec.toNat_xor, BitVec.toNat_ofNat, Nat.mod_eq_of_lt he, BitVec.toNat_allOnes]
 rw [← h2, BitVec.allOnes_xor, h]
theorem ch_eq {e f g : Nat} (he : e < 18446744073709551616) : (e &&& f) ||| ((18446744073709551615 ^^^ e) &&& g) = (e &&& f) ^^^ ((18446744073709551615 - e) &&& g) := by
 rw [← not64 he]
 refine Nat.eq_of_testBit_eq fun i => ?_
 simp only [Nat.testBit_or, Nat.testBit_and, Nat.testBit_xor, all1_bit]
 cases hb : e.testBit i with
 | false => simp
 | true =>
  have := bit_lt64 he hb
  simp [this]
theorem maj_eq (a b c : Nat) : ((a &&& b) ||| (a &&& c)) ||| (b &&& c) = ((a &&& b) ^^^ (a &&& c)) ^^^ (b &&& c) := by
 refine Nat.eq_of_testBit_eq fun i => ?_
 simp only [Nat.testBit_or, Nat.testBit_and, Nat.testBit_xor]
 cases a.testBit i <;> cases b.testBit i <;> cases c.testBit i <;> rfl
theorem zAw {a b : Nat} (ha : a < 18446744073709551616) : a &&& b < 18446744073709551616 := Nat.lt_of_le_of_lt Nat.and_le_left ha
theorem zDd {a b : Nat} (ha : a < 18446744073709551616) (hb : b < 18446744073709551616) : a ^^^ b < 18446744073709551616 := Nat.xor_lt_two_pow (n := 64) ha hb
theorem or_lt64 {a b : Nat} (ha : a < 18446744073709551616) (hb : b < 18446744073709551616) : a ||| b < 18446744073709551616 := Nat.or_lt_two_pow (n := 64) ha hb
def ad (a b : Nat) : Nat := (a + b) % 18446744073709551616
theorem zFh (a b : Nat) : ad a b < 18446744073709551616 := Nat.mod_lt _ (by decide)
theorem yK (a b : Nat) : IntKind.u64.wrap ((a : Int) + (b : Int)) = ((ad a b : Nat) : Int) := by
 rw [← Int.natCast_add]
 unfold ad
 generalize a + b = x
 simp [IntKind.wrap, IntKind.bits, IntKind.signed]
def sg (x a b c : Nat) : Nat := rotr x a ^^^ rotr x b ^^^ rotr x c
theorem n_turns {x a b c : Nat} (hx : x < 18446744073709551616) (ha0 : 0 < a) (ha : a < 64) (hb0 : 0 < b) (hb : b < 64) (hc0 : 0 < c) (hc : c < 64)
  (ea : IntKind.u64.wrap ((((BitVec.ofInt IntKind.u64.bits (IntKind.u64.wrap (wi (0 - (a : Int))))) &&& (BitVec.ofInt IntKind.u64.bits 63)).toNat : Nat) : Int) = ((64 - a : Nat) : Int))
  (eb : IntKind.u64.wrap ((((BitVec.ofInt IntKind.u64.bits (IntKind.u64.wrap (wi (0 - (b : Int))))) &&& (BitVec.ofInt IntKind.u64.bits 63)).toNat : Nat) : Int) = ((64 - b : Nat) : Int))
  (ec : IntKind.u64.wrap ((((BitVec.ofInt IntKind.u64.bits (IntKind.u64.wrap (wi (0 - (c : Int))))) &&& (BitVec.ofInt IntKind.u64.bits 63)).toNat : Nat) : Int) = ((64 - c : Nat) : Int)) : zBT (x : Int) (a : Int) (b : Int) (c : Int) = some ((sg x a b c : Nat) : Int) := by
 unfold zBT
 have h1 := zBr hx (a := a) (by omega)
 have h2 := zBr hx (a := b) (by omega)
 have h3 := zBr hx (a := c) (by omega)
 rw [zHc hx ha0 ha ea, Option.bind_some, zHc hx hb0 hb eb, Option.bind_some, zHc hx hc0 hc ec, Option.bind_some, zBo h1 h2, zBo (zDd h1 h2) h3]
 rfl
theorem n_turns1 {x : Nat} (hx : x < 18446744073709551616) : zBT (x : Int) 14 18 41 = some ((sg x 14 18 41 : Nat) : Int) := n_turns (a := 14) (b := 18) (c := 41) hx (by decide) (by decide) (by decide) (by decide) (by decide) (by decide) rfl rfl rfl
theorem n_turns2 {x : Nat} (hx : x < 18446744073709551616) : zBT (x : Int) 28 34 39 = some ((sg x 28 34 39 : Nat) : Int) := n_turns (a := 28) (b := 34) (c := 39) hx (by decide) (by decide) (by decide) (by decide) (by decide) (by decide) rfl rfl rfl
theorem n_rol1 {x : Nat} (hx : x < 18446744073709551616) : zN (x : Int) (-1) = some ((rotr x 1 : Nat) : Int) := zHc hx (by decide) (by decide) rfl
theorem n_rol8 {x : Nat} (hx : x < 18446744073709551616) : zN (x : Int) (-8) = some ((rotr x 8 : Nat) : Int) := zHc hx (by decide) (by decide) rfl
theorem n_rol19 {x : Nat} (hx : x < 18446744073709551616) : zN (x : Int) (-19) = some ((rotr x 19 : Nat) : Int) := zHc hx (by decide) (by decide) rfl
theorem n_rol61 {x : Nat} (hx : x < 18446744073709551616) : zN (x : Int) (-61) = some ((rotr x 61 : Nat) : Int) := zHc hx (by decide) (by decide) rfl
end Go.Proofs.YtmgafkpkpmjieaaDoor

/-
 The plain law of the sums: a piece's eighty words.
-/
namespace Go.Proofs.YtmgafkpkpmjieaaDoor
open Go Go.RowKit
set_option linter.unusedVariables false
def ci (l : List Nat) : List Int := l.map fun n : Nat => (n : Int)
theorem zFA (l : List Nat) : (ci l).length = l.length := List.length_map ..
theorem ci_get {l : List Nat} {i : Nat} (h : i < l.length) : (ci l)[i]? = some ((l.getD i 0 : Nat) : Int) := by
 unfold ci
 rw [List.getElem?_map, List.getElem?_eq_getElem h, List.getD_eq_getElem?_getD, List.getElem?_eq_getElem h]
 rfl
theorem zGw {l : List Nat} {i : Nat} (h : i < l.length) : idx (ci l) (i : Int) = some ((l.getD i 0 : Nat) : Int) := by
 unfold idx
 rw [yX (by omega), cond_true, Int.toNat_natCast, ci_get h]
theorem zGZ {l : List Nat} {n i : Nat} (h : i < l.length) (hn : l.length = n) : idxA n (ci l) (i : Int) = some ((l.getD i 0 : Nat) : Int) := by
 unfold idxA
 rw [if_pos ⟨by omega, by omega⟩, Int.toNat_natCast, ci_get h]
theorem getD_app {l r : List Nat} {i : Nat} (h : i < l.length) : (l ++ r).getD i 0 = l.getD i 0 := by
 rw [List.getD_eq_getElem?_getD, List.getD_eq_getElem?_getD, List.getElem?_append_left h]
def zFx (l : List Nat) : Prop := ∀ x ∈ l, x < 18446744073709551616
theorem zFx.get {l : List Nat} (h : zFx l) (i : Nat) : l.getD i 0 < 18446744073709551616 := by
 rw [List.getD_eq_getElem?_getD]
 cases hi : l[i]? with
 | none => decide
 | some x => exact h x (List.mem_of_getElem? hi)
theorem zFx.app {l : List Nat} (h : zFx l) {v : Nat} (hv : v < 18446744073709551616) : zFx (l ++ [v]) := fun x hx => by
 rcases List.mem_append.1 hx with hx | hx
 · exact h x hx
 · rw [List.mem_singleton.1 hx]; exact hv
def zHK (l : List Nat) : Nat :=
 let x := l.getD (l.length - 15) 0
 let y := l.getD (l.length - 2) 0
 ad (ad (ad (l.getD (l.length - 16) 0) (rotr x 1 ^^^ rotr x 8 ^^^ x / 2 ^ 7)) (l.getD (l.length - 7) 0)) (rotr y 19 ^^^ rotr y 61 ^^^ y / 2 ^ 6)
theorem zIG (l : List Nat) : zHK l < 18446744073709551616 := zFh _ _
def wext : Nat → List Nat → List Nat
 | 0, l => l
 | k + 1, l => wext k (l ++ [zHK l])
theorem wi_sub {a : Nat} (c : Nat) (h : c ≤ a) (ha : a < 1000000) : wi ((a : Int) - (c : Int)) = ((a - c : Nat) : Int) := by
 rw [show (a : Int) - (c : Int) = ((a - c : Nat) : Int) by omega, zBJ (by omega)]
theorem set_ci (l : List Nat) (k v : Nat) : (ci (l ++ List.replicate (k + 1) 0)).set l.length (v : Int) = ci ((l ++ [v]) ++ List.replicate k 0) := by
 unfold ci
 rw [← List.map_set]
 congr 1
 rw [List.set_append_right _ _ (Nat.le_refl _), Nat.sub_self, List.replicate_succ, List.set_cons_zero]
 simp
theorem next_eq {x y u v : Nat} (hx : x < 18446744073709551616) (hy : y < 18446744073709551616) :
  (IntKind.u64.wrap ((IntKind.u64.wrap ((IntKind.u64.wrap ((u : Int) + (IntKind.u64.wrap ((((BitVec.ofInt IntKind.u64.bits (IntKind.u64.wrap ((((BitVec.ofInt IntKind.u64.bits ((rotr x 1 : Nat) : Int)) ^^^ (BitVec.ofInt IntKind.u64.bits ((rotr x 8 : Nat) : Int))).toNat : Nat) : Int))) ^^^ (BitVec.ofInt IntKind.u64.bits ((x / 2 ^ 7 : Nat) : Int))).toNat : Nat) : Int)))) + (v : Int))) + (IntKind.u64.wrap ((((BitVec.ofInt IntKind.u64.bits (IntKind.u64.wrap ((((BitVec.ofInt IntKind.u64.bits ((rotr y 19 : Nat) : Int)) ^^^ (BitVec.ofInt IntKind.u64.bits ((rotr y 61 : Nat) : Int))).toNat : Nat) : Int))) ^^^ (BitVec.ofInt IntKind.u64.bits ((y / 2 ^ 6 : Nat) : Int))).toNat : Nat) : Int)))) = ((ad (ad (ad u (rotr x 1 ^^^ rotr x 8 ^^^ x / 2 ^ 7)) v) (rotr y 19 ^^^ rotr y 61 ^^^ y / 2 ^ 6) : Nat) : Int) := by
 have h1 := zBr hx (a := 1) (by omega)
 have h2 := zBr hx (a := 8) (by omega)
 have h3 := zBr hy (a := 19) (by omega)
 have h4 := zBr hy (a := 61) (by omega)
 have h5 : x / 2 ^ 7 < 18446744073709551616 := Nat.lt_of_le_of_lt (Nat.div_le_self _ _) hx
 have h6 : y / 2 ^ 6 < 18446744073709551616 := Nat.lt_of_le_of_lt (Nat.div_le_self _ _) hy
 rw [zBo h1 h2, zBo (zDd h1 h2) h5, zBo h3 h4, zBo (zDd h3 h4) h6, yK, yK, yK]
theorem zH6 (x n : Nat) : Int.fdiv (x : Int) (2 ^ n) = ((x / 2 ^ n : Nat) : Int) := by
 rw [Int.fdiv_eq_ediv_of_nonneg _ (by exact Int.natCast_nonneg (2 ^ n))]
 simp
theorem zGt : ∀ (k : Nat) (l : List Nat), zFx l → 16 ≤ l.length → l.length + k = 80 → ∀ fuel, k < fuel → zAD fuel (l.length : Int) (ci (l ++ List.replicate k 0)) = some (ci (wext k l))
 | 0, l, hl, h16, h80, fuel + 1, hf => by
  unfold zAD
  have h : l.length = 80 := by omega
  rw [yB (by omega), cond_false, List.replicate_zero, List.append_nil, show lenI (ci l).length 80 = some () by rw [zFA, h]; rfl, Option.bind_some]
  rfl
 | k + 1, l, hl, h16, h80, fuel + 1, hf => by
  unfold zAD
  have hlen : (l ++ List.replicate (k + 1) 0).length = 80 := by simp; omega
  have g : ∀ c, 0 < c → c ≤ 16 → idxA 80 (ci (l ++ List.replicate (k + 1) 0)) (wi ((l.length : Int) - (c : Nat))) = some ((l.getD (l.length - c) 0 : Nat) : Int) := fun c h0 hc => by
   rw [wi_sub c (by omega) (by omega), zGZ (by omega) hlen, getD_app (by omega)]
  have hx := hl.get (l.length - 15)
  have hy := hl.get (l.length - 2)
  rw [yX (by omega), cond_true]
  rw [show wi ((l.length : Int) - 15) = wi ((l.length : Int) - ((15 : Nat) : Int)) from rfl, g 15 (by omega) (by omega), Option.bind_some,
   show wi ((l.length : Int) - 2) = wi ((l.length : Int) - ((2 : Nat) : Int)) from rfl, g 2 (by omega) (by omega), Option.bind_some,
   show wi ((l.length : Int) - 16) = wi ((l.length : Int) - ((16 : Nat) : Int)) from rfl, g 16 (by omega) (by omega), Option.bind_some,
   n_rol1 hx, Option.bind_some, n_rol8 hx, Option.bind_some,
   show wi ((l.length : Int) - 7) = wi ((l.length : Int) - ((7 : Nat) : Int)) from rfl, g 7 (by omega) (by omega), Option.bind_some,
   n_rol19 hy, Option.bind_some, n_rol61 hy, Option.bind_some, zGZ (by omega) hlen, Option.bind_some, zH6, zH6, next_eq hx hy, Int.toNat_natCast]
  show zAD fuel (wi ((l.length : Int) + 1)) ((ci (l ++ List.replicate (k + 1) 0)).set l.length ((zHK l : Nat) : Int)) = _
  rw [set_ci, show (l.length : Int) + 1 = (((l ++ [zHK l]).length : Nat) : Int) by simp, zBJ (by simp; omega)]
  exact zGt k (l ++ [zHK l]) (hl.app (zIG l)) (by simp; omega) (by simp; omega) fuel (by omega)
end Go.Proofs.YtmgafkpkpmjieaaDoor
