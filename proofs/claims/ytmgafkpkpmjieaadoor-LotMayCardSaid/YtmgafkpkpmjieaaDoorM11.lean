/-
  Texts joined: see the remark at the head of each part.
-/
import Derived.Test.YtmgafkpkpmjieaaDoorM10
import Derived.Test.YtmgafkpkpmjieaaDoorM05
import Derived.Test.YtmgafkpkpmjieaaDoorM08
import Derived.ChangeKeysEq
import Derived.Test.YtmgafkpkpmjieaaDoorM09
import Derived.Test.YtmgafkpkpmjieaaDoorM00
set_option linter.unusedVariables false
set_option linter.unusedSimpArgs false
/-
 sha.Sum: what it computes, and that it does so. The bytes that are left over, and the numbers, are variables that a closure holds.
-/
namespace Go.Proofs.YtmgafkpkpmjieaaDoor
open Go Go.RowKit
set_option linter.unusedVariables false
set_option maxHeartbeats 4000000
set_option maxRecDepth 20000
def zIj (ks : List Int) : Nat → List UInt8 → List Int → Option (List UInt8 × List Int)
 | 0, _, _ => none
 | n + 1, lf, s => bif decide ((lf.length : Int) ≥ 128) then (Option.bind (cutI lf 0 128) fun x => Option.bind (zCk s ks x) fun y => zIj ks n (lf.drop 128) y) else some (lf, s)
def takeM (ks : List Int) (lf : List UInt8) (s : List Int) (p : List UInt8) : Option (List UInt8 × List Int) := Option.bind (appI 1 lf p) fun x => zIj ks (x.length + 1) x s
def notE (b : List UInt8) : Option Unit := bif b.isEmpty then none else some ()
def sumE (ks : List Int) (lf : List UInt8) (s : List Int) (n : Int) : Option (List UInt8 × List UInt8 × List Int) :=
 Option.bind (zEc n) fun pd =>
 Option.bind (takeM ks lf s pd) fun y =>
 Option.bind (zAt (padA (0 : Int) y.2 0 8)) fun b =>
 Option.bind (notE b) fun _ =>
 Option.bind (cpyI (List.replicate 64 (0 : UInt8)) 0 64 b) fun o =>
 Option.bind (lenI o.length 64) fun _ => some (o, y)
def sumL (ks : List Int) (p0 : List (List UInt8)) : Nat → List UInt8 → List Int → Int → Int → Option (List UInt8 × List UInt8 × List Int)
 | 0, _, _, _, _ => none
 | k + 1, lf, s, n, i => bif decide (i < (p0.length : Int)) then (Option.bind (idx p0 i) fun x => Option.bind (takeM ks lf s x) fun y => sumL ks p0 k y.1 y.2 (wi (n + (x.length : Int))) (wi (i + 1))) else sumE ks lf s n
def sum3 (p0 : List (List UInt8)) : Option (List UInt8 × List UInt8 × List Int) :=
 Option.bind zDW fun ks => Option.bind zDl fun s => sumL ks p0 (p0.length + 1) [] s 0 0
def zCm (p0 : List (List UInt8)) : Option (List UInt8) := (sum3 p0).map (·.1)
def hp1 (s : List Int) : Nat → A
 | 1 => .box (List.map T.d (ar (cInt .u64) (0 : Int) s 0 8))
 | _ => .free
def hpQ (t : T) (s : List Int) : Nat → A
 | 0 => .box [t]
 | 1 => .box (List.map T.d (ar (cInt .u64) (0 : Int) s 0 8))
 | _ => .free
theorem hpQ_0 (t t' : T) (s : List Int) : hpQ t' s = updF (hpQ t s) 0 (.box [t']) := by
 funext c
 unfold updF
 rcases c with _ | _ | c <;> rfl
theorem hpQ_1 (t : T) (s s' : List Int) : hpQ t s' = updF (hpQ t s) 1 (.box (List.map T.d (ar (cInt .u64) (0 : Int) s' 0 8))) := by
 funext c
 unfold updF
 rcases c with _ | _ | c <;> rfl
theorem hp1_0 (w : Hp) (s : List Int) : hp1 s = updF (hpA w) 1 (.box (List.map T.d (ar (cInt .u64) (0 : Int) s 0 8))) := by
 funext c
 unfold updF
 rcases c with _ | _ | c <;> rfl
theorem hp1_1 (s s' : List Int) : hp1 s' = updF (hp1 s) 1 (.box (List.map T.d (ar (cInt .u64) (0 : Int) s' 0 8))) := by
 funext c
 unfold updF
 rcases c with _ | _ | c <;> rfl
theorem hp1_S (t : T) (s : List Int) : hpQ t s = updF (hp1 s) 0 (.box [t]) := by
 funext c
 unfold updF
 rcases c with _ | _ | c <;> rfl
theorem zCq {t : T} (ht : t.isLoc = false) (s : List Int) : zDy (hpQ t s) := by
 intro c l h x hx
 rcases c with _ | _ | c
 ·
  injection h with h
  subst h
  cases hx with
  | head => exact ht
  | tail _ h => cases h
 ·
  injection h with h
  subst h
  obtain ⟨y, _, rfl⟩ := List.mem_map.1 hx
  rfl
 · cases h
theorem zG9 (p0 p1 : List Int) (p2 : List UInt8) (r : List Int) (h : zCk p0 p1 p2 = some r) : FC Tryd.prog 63 [.t (.agg (ar (cInt .u64) (0 : Int) p0 0 8)), .imm (ar (cInt .u64) (0 : Int) p1 0 80), .t (.d (.seq 1 (zD p2)))] [] (.t (.agg (ar (cInt .u64) (0 : Int) r 0 8))) :=
 zHn (zGQ p0 p1 p2 Hp.e r h) hpA_e rfl (Nat.le_of_ble_eq_true rfl)
theorem zIJ (ks : List Int) (p lf : List UInt8) (s : List Int) (r : List UInt8 × List Int) (h : takeM ks lf s p = some r) : FCH Tryd.prog 62 ([.t (.d (.seq 1 (zD p)))] ++ ckA [.live 0, .live 1, .fz (ar (cInt .u64) (0 : Int) ks 0 80)]) [] [] (hpQ (.own OFB 1 (zD lf)) s) (hpQ (.own OFB 1 (zD r.1)) r.2) (.tup []) := by
 refine zBM (rs := []) (n := 17) [] Tryd.func62 rfl rfl (Nat.le_of_ble_eq_true rfl) rfl (pins := []) rfl (L := [(HK, .hp (hpQ (.own OFB 1 (zD lf)) s)), (0, .t (.d (.seq 1 (zD p)))), (1, .t (.hpt 0 0)), (2, .t (.hpt 1 0)), (3, .imm (ar (cInt .u64) (0 : Int) ks 0 80))]) rfl ?_
 refine zM ?_
 refine zG ?_
 refine o_of (e := [(HK, .hp (hpQ (.d (.seq 1 (zD lf))) s)), (5, .t (.own OFB 1 (zD lf)))]) (g0 rfl) (h_htake (Mk.refl _) rfl rfl rfl rfl rfl rfl rfl rfl rfl (hpQ_0 _ _ _)) rfl ?_
 refine o_s (.t (.d (.seq 1 (zD p)))) (g0 rfl) rfl rfl rfl ?_
 obtain ⟨x, h1, h⟩ := bind_some h
 refine o_of (e := [(5, .t (.d (.seq 1 (zD lf)))), (7, .t (.own OFB 1 (zD x)))]) (g0 rfl) (h_appQ (Mk.refl _) rfl rfl rfl rfl rfl rfl (appC (c := cU8) h1) (by rw [(zEN h1).2]; exact List.map_append.symm) rfl rfl) rfl ?_
 refine o_of (e := [(HK, .hp (hpQ (.own OFB 1 (zD x)) s)), (7, .t (.d (.seq 1 (zD x))))]) (g0 rfl) (h_hsto (Mk.refl _) rfl rfl rfl rfl rfl rfl rfl rfl rfl rfl rfl (hpQ_0 _ _ _)) rfl ?_
 refine zA ?_
 repeat (first | refine zY ?_ | refine yF ?_ | refine yO ?_ | refine zS ?_ | refine yD ?_ | refine qL ?_ | refine qS rfl ?_)
 refine zL ?_
 refine c_fuelH (fun (q : List UInt8 × List Int) => [(1, .t (.hpt 0 0)), (2, .t (.hpt 1 0)), (3, .imm (ar (cInt .u64) (0 : Int) ks 0 80)), (HK, .hp (hpQ (.own OFB 1 (zD q.1)) q.2))]) (fun n => (fun (q : List UInt8 × List Int) => zIj ks n q.1 q.2 = some r)) (x.length + 1) (x, s) [] h rfl ⟨.inr ⟨_, rfl, zCq rfl _⟩, by (repeat (first | exact ObP.nil | refine ObP.cons (.inl rfl) ?_ | refine ObP.cons (.inr (fun _ => rfl)) ?_ | refine ObP.cons (.inr (zD4 (zDD _ _))) ?_ | refine ObP.cons (.inr (zGc _ _)) ?_))⟩ ⟨(.refl _), ⟨(.refl _), ⟨(.refl _), ⟨(.refl _), trivial⟩⟩⟩⟩ rfl ?_
 rintro n ⟨lf', s'⟩ h
 cases n with
 | zero => exact none_ne h
 | succ n =>
  refine zM ?_
  refine zM ?_
  refine zG ?_
  refine o_of (e := [(8, .t (.d (.seq 1 (zD lf'))))]) (g0 rfl) (h_ld (Mk.refl _) rfl rfl rfl rfl rfl rfl rfl rfl rfl) rfl ?_
  refine o_c (x := .t (.d (.lit (.int .i64 (lf'.length : Int))))) (g0 rfl) rfl rfl rfl (lenE _ _) trivial ?_
  refine o_s (.t (.d (.lit (.bool (decide ((lf'.length : Int) ≥ 128)))))) (g0 rfl) rfl rfl rfl ?_
  refine zA ?_
  repeat (first | refine zY ?_ | refine yF ?_ | refine yO ?_ | refine zS ?_ | refine yD ?_ | refine qL ?_ | refine qS rfl ?_)
  rcases zE h with ⟨h9, h⟩ | ⟨h9, h⟩
  ·
   refine c_t h9 rfl ?_
   refine zK ?_
   repeat (first | refine zY ?_ | refine yF ?_ | refine yO ?_ | refine zS ?_ | refine yD ?_ | refine qL ?_ | refine qS rfl ?_)
   refine zL ?_
   refine zM ?_
   refine zBN zC8 (by kernel_rfl) ?_
   refine d_h (e := [(11, .t (.agg (ar (cInt .u64) (0 : Int) s' 0 8)))]) (ks := [11]) rfl (dg0 rfl) rfl rfl (fun S' hM hk hok => h_lr hM hk rfl rfl rfl rfl rfl rfl rfl rfl rfl (hok _ rfl rfl)) rfl ?_
   refine d_h (e := [(12, .t (.d (.seq 1 (zD lf'))))]) (ks := [12]) rfl (dg0 rfl) rfl rfl (fun S' hM hk hok => h_ld hM hk rfl rfl rfl rfl rfl rfl rfl (hok _ rfl rfl)) rfl ?_
   obtain ⟨x2, h3, h⟩ := bind_some h
   refine d_c (x := .t (.d (.seq 1 (zD x2)))) rfl (dg0 rfl) rfl rfl rfl rfl (cutEh (c := cU8) h3) (cutCh (c := cU8) h3) ?_
   obtain ⟨x3, h4, h⟩ := bind_some h
   refine d_ca (zG9 _ _ _ _ h4) rfl (dg0 rfl) rfl rfl rfl rfl rfl rfl rfl rfl (.cons (.refl _) (.cons (.refl _) (.cons (.refl _) .nil))) rfl rfl ?_
   refine d_h (e := [(HK, .hp (hpQ (.own OFB 1 (zD lf')) x3))]) (ks := [HK]) rfl (dg0 rfl) rfl rfl (fun S' hM hk hok => h_st hM hk rfl rfl rfl rfl rfl rfl rfl (Nat.le_of_ble_eq_true rfl) rfl (hpQ_1 _ _ _)) rfl ?_
   refine zCi (by kernel_rfl) ?_
   repeat (first | refine zY ?_ | refine yF ?_ | refine yO ?_ | refine zS ?_ | refine yD ?_ | refine qL ?_ | refine qS rfl ?_)
   refine zG ?_
   refine o_of (e := [(HK, .hp (hpQ (.d (.seq 1 (zD lf'))) x3)), (15, .t (.own OFB 1 (zD lf')))]) (g0 rfl) (h_htake (Mk.refl _) rfl rfl rfl rfl rfl rfl rfl rfl rfl (hpQ_0 _ _ _)) rfl ?_
   refine o_of (e := [(15, .t (.d (.seq 1 (zD lf')))), (16, .t (.own OFB 1 (zD (lf'.drop 128))))]) (g0 rfl) (h_cutQ (Mk.refl _) rfl rfl rfl rfl rfl rfl (by have : (lf'.length : Int) ≥ 128 := of_decide_eq_true h9; rw [zD, List.length_map]; omega) List.map_drop.symm rfl rfl rfl rfl) rfl ?_
   refine o_of (e := [(HK, .hp (hpQ (.own OFB 1 (zD (lf'.drop 128))) x3)), (16, .t (.d (.seq 1 (zD (lf'.drop 128)))))]) (g0 rfl) (h_hsto (Mk.refl _) rfl rfl rfl rfl rfl rfl rfl rfl rfl rfl rfl (hpQ_0 _ _ _)) rfl ?_
   refine zA ?_
   repeat (first | refine zY ?_ | refine yF ?_ | refine yO ?_ | refine zS ?_ | refine yD ?_ | refine qL ?_ | refine qS rfl ?_)
   exact ⟨n, (lf'.drop 128, x3), [], Nat.lt_succ_self _, h, rfl, ⟨.inr ⟨_, rfl, zCq rfl _⟩, by (repeat (first | exact ObP.nil | refine ObP.cons (.inl rfl) ?_ | refine ObP.cons (.inr (fun _ => rfl)) ?_ | refine ObP.cons (.inr (zD4 (zDD _ _))) ?_ | refine ObP.cons (.inr (zGc _ _)) ?_))⟩, ⟨(.refl _), ⟨(.refl _), ⟨(.refl _), ⟨(.refl _), trivial⟩⟩⟩⟩, rfl⟩
  ·
   refine c_f h9 rfl ?_
   refine qU ?_
   repeat (first | refine zY ?_ | refine yF ?_ | refine yO ?_ | refine zS ?_ | refine yD ?_ | refine qL ?_ | refine qS rfl ?_)
   obtain rfl := Option.some.inj h
   exact ⟨⟨_, rfl, (.refl _)⟩, trivial, rfl⟩
theorem fch_sum3 (p0 : List (List UInt8)) (r : List UInt8 × List UInt8 × List Int) (h : sum3 p0 = some r) : FCH Tryd.prog 49 [.t (.d (.seq 1 (List.map (cSl 1 cU8) p0)))] [] [] (hpA Hp.e) (hpQ (.own OFB 1 (zD r.2.1)) r.2.2) (.t (.agg (ar cU8 (0 : UInt8) r.1 0 64))) := by
 refine zBM (rs := [.cell 2 71]) (n := 37) [0] Tryd.func49 rfl rfl (Nat.le_of_ble_eq_true rfl) rfl (pins := []) rfl (L := [(HK, .hp (hpA Hp.e)), (OB + 0, .free), (0, .t (.d (.seq 1 (List.map (cSl 1 cU8) p0))))]) rfl ?_
 refine zM ?_
 refine zG ?_
 refine o_s (.box (List.map T.d (ar cU8 (0 : UInt8) ([] : List UInt8) 0 64))) (g0 rfl) rfl rfl (by kernel_rfl) ?_
 refine zA ?_
 repeat (first | refine zY ?_ | refine yF ?_ | refine yO ?_ | refine zS ?_ | refine yD ?_ | refine qL ?_ | refine qS rfl ?_)
 refine zM ?_
 refine zG ?_
 obtain ⟨ks, h1, h⟩ := bind_some h
 refine o_ca (zGz _ h1) (g0 rfl) rfl rfl rfl rfl rfl rfl rfl .nil rfl rfl ?_
 obtain ⟨s, h2, h⟩ := bind_some h
 refine o_ca (zG7 _ h2) (g0 rfl) rfl rfl rfl rfl rfl rfl rfl .nil rfl rfl ?_
 refine o_s (.box (List.map T.d (ar (cInt .u64) (0 : Int) ([] : List Int) 0 80))) (g0 rfl) rfl rfl (by kernel_rfl) ?_
 refine o_of (e := [(HK, .hp (hp1 [])), (4, .t (.hpt 1 0))]) (g0 rfl) (h_new rfl rfl rfl rfl (by kernel_rfl) rfl rfl rfl (hp1_0 _ _)) rfl ?_
 refine o_st (b := 3) (.box (List.map T.d (ar (cInt .u64) (0 : Int) ks 0 80))) (g0 rfl) rfl rfl (by kernel_rfl) ?_
 refine o_of (e := [(HK, .hp (hp1 s))]) (g0 rfl) (h_st (Mk.refl _) rfl rfl rfl rfl rfl rfl rfl rfl (Nat.le_of_ble_eq_true rfl) rfl (hp1_1 _ _)) rfl ?_
 refine zA ?_
 repeat (first | refine zY ?_ | refine yF ?_ | refine yO ?_ | refine zS ?_ | refine yD ?_ | refine qL ?_ | refine qS rfl ?_)
 refine zM ?_
 refine zG ?_
 refine o_of (e := [(HK, .hp (hpQ (.own OFB 1 (zD [])) s)), (5, .t (.hpt 0 0))]) (g0 rfl) (h_newW rfl rfl rfl rfl rfl (.cons (.nilOwn _ _) .nil) rfl rfl rfl rfl (hp1_S _ _)) rfl ?_
 refine zA ?_
 repeat (first | refine zY ?_ | refine yF ?_ | refine yO ?_ | refine zS ?_ | refine yD ?_ | refine qL ?_ | refine qS rfl ?_)
 refine zM ?_
 refine zG ?_
 refine o_s (.t (.d (.lit (.int .i64 0)))) (g0 rfl) rfl rfl rfl ?_
 refine zA ?_
 repeat (first | refine zY ?_ | refine yF ?_ | refine yO ?_ | refine zS ?_ | refine yD ?_ | refine qL ?_ | refine qS rfl ?_)
 refine zM ?_
 refine c_fz (pins := _) 3 (.imm (ar (cInt .u64) (0 : Int) ks 0 80)) rfl rfl rfl (by kernel_rfl) ?_
 refine zG ?_
 refine o_of (e := [(13, .ck 62 [.live 0, .live 1, .fz (ar (cInt .u64) (0 : Int) ks 0 80)])]) (g0 rfl) (h_mfK (Mk.refl _) rfl rfl rfl rfl) rfl ?_
 refine o_s (.ck 62 [.live 0, .live 1, .fz (ar (cInt .u64) (0 : Int) ks 0 80)]) (g0 rfl) rfl rfl rfl ?_
 refine zA ?_
 repeat (first | refine zY ?_ | refine yF ?_ | refine yO ?_ | refine zS ?_ | refine yD ?_ | refine qL ?_ | refine qS rfl ?_)
 refine zM ?_
 refine zM ?_
 refine zG ?_
 refine o_s (.t (.d (.seq 1 (List.map (cSl 1 cU8) p0)))) (g0 rfl) rfl rfl rfl ?_
 refine o_c (x := .t (.d (.lit (.int .i64 (p0.length : Int))))) (g0 rfl) rfl rfl rfl (lenE _ _) trivial ?_
 refine o_s (.t (.d (.lit (.int .i64 0)))) (g0 rfl) rfl rfl rfl ?_
 refine zA ?_
 repeat (first | refine zY ?_ | refine yF ?_ | refine yO ?_ | refine zS ?_ | refine yD ?_ | refine qL ?_ | refine qS rfl ?_)
 refine zL ?_
 refine c_fuelH (fun (q : List UInt8 × List Int × Int × Int) => [(2, .box (List.map T.d (ar cU8 (0 : UInt8) ([] : List UInt8) 0 64))), (4, .t (.hpt 1 0)), (6, .t (.d (.lit (.int .i64 q.2.2.1)))), (7, .ck 62 [.live 0, .live 1, .fz (ar (cInt .u64) (0 : Int) ks 0 80)]), (14, .t (.d (.seq 1 (List.map (cSl 1 cU8) p0)))), (15, .t (.d (.lit (.int .i64 (p0.length : Int))))), (16, .t (.d (.lit (.int .i64 q.2.2.2)))), (OB + 0, .free), (HK, .hp (hpQ (.own OFB 1 (zD q.1)) q.2.1))]) (fun n => (fun (q : List UInt8 × List Int × Int × Int) => sumL ks p0 n q.1 q.2.1 q.2.2.1 q.2.2.2 = some r)) (p0.length + 1) ([], s, 0, 0) [] h rfl ⟨.inr ⟨_, rfl, zCq rfl _⟩, by (repeat (first | exact ObP.nil | refine ObP.cons (.inl rfl) ?_ | refine ObP.cons (.inr (fun _ => rfl)) ?_ | refine ObP.cons (.inr (zD4 (zDD _ _))) ?_ | refine ObP.cons (.inr (zGc _ _)) ?_))⟩ ⟨(.refl _), ⟨(.refl _), ⟨(.refl _), ⟨(.refl _), ⟨(.refl _), ⟨(.refl _), ⟨(.refl _), ⟨(.refl _), ⟨(.refl _), trivial⟩⟩⟩⟩⟩⟩⟩⟩⟩ rfl ?_
 rintro k ⟨lf, s1, n, i⟩ h
 cases k with
 | zero => exact none_ne h
 | succ k =>
  refine zM ?_
  refine zG ?_
  refine o_s (.t (.d (.lit (.bool (decide (i < (p0.length : Int))))))) (g0 rfl) rfl rfl rfl ?_
  refine zA ?_
  repeat (first | refine zY ?_ | refine yF ?_ | refine yO ?_ | refine zS ?_ | refine yD ?_ | refine qL ?_ | refine qS rfl ?_)
  refine zM ?_
  rcases zE h with ⟨h9, h⟩ | ⟨h9, h⟩
  ·
   refine c_t h9 rfl ?_
   refine zK ?_
   repeat (first | refine zY ?_ | refine yF ?_ | refine yO ?_ | refine zS ?_ | refine yD ?_ | refine qL ?_ | refine qS rfl ?_)
   refine zM ?_
   refine zL ?_
   refine zM ?_
   refine zG ?_
   obtain ⟨x, h3, h⟩ := bind_some h
   refine o_c (x := .imm [.seq 1 (zD x)]) (g0 rfl) rfl rfl rfl (idxE (c := cSl 1 cU8) h3) (idxC (c := cSl 1 cU8) h3) ?_
   refine o_s (.t (.d (.seq 1 (zD x)))) (g0 rfl) rfl rfl rfl ?_
   refine o_s (.t (.d (.seq 1 (zD x)))) (g0 rfl) rfl rfl rfl ?_
   refine zA ?_
   repeat (first | refine zY ?_ | refine yF ?_ | refine yO ?_ | refine zS ?_ | refine yD ?_ | refine qL ?_ | refine qS rfl ?_)
   refine zM ?_
   refine zG ?_
   refine o_s (.t (.d (.lit (.int .i64 n)))) (g0 rfl) rfl rfl rfl ?_
   refine o_s (.t (.d (.seq 1 (zD x)))) (g0 rfl) rfl rfl rfl ?_
   refine o_c (x := .t (.d (.lit (.int .i64 (x.length : Int))))) (g0 rfl) rfl rfl rfl (lenE _ _) trivial ?_
   refine o_s (.t (.d (.lit (.int .i64 (wi (n + (x.length : Int))))))) (g0 rfl) rfl rfl rfl ?_
   refine o_s (.t (.d (.lit (.int .i64 (wi (n + (x.length : Int))))))) (g0 rfl) rfl rfl rfl ?_
   refine zA ?_
   repeat (first | refine zY ?_ | refine yF ?_ | refine yO ?_ | refine zS ?_ | refine yD ?_ | refine qL ?_ | refine qS rfl ?_)
   refine zG ?_
   refine o_s (.ck 62 [.live 0, .live 1, .fz (ar (cInt .u64) (0 : Int) ks 0 80)]) (g0 rfl) rfl rfl rfl ?_
   refine o_s (.t (.d (.seq 1 (zD x)))) (g0 rfl) rfl rfl rfl ?_
   obtain ⟨y, h4, h⟩ := bind_some h
   refine o_of (e := [(HK, .hp (hpQ (.own OFB 1 (zD y.1)) y.2)), (26, .tup [])]) (g0 rfl) (h_callC (args := [.t (.d (.seq 1 (zD x)))]) (Mk.refl _) rfl rfl rfl rfl rfl ⟨_, Tryd.func62, rfl, rfl⟩ (zIJ ks x lf s1 y h4) (zCq rfl _) (zCq rfl _) (.cons (.plain (.refl _) rfl) .nil) rfl (.tup .nil)) rfl ?_
   refine zA ?_
   repeat (first | refine zY ?_ | refine yF ?_ | refine yO ?_ | refine zS ?_ | refine yD ?_ | refine qL ?_ | refine qS rfl ?_)
   refine zG ?_
   refine o_s (.t (.d (.lit (.int .i64 (wi (i + 1)))))) (g0 rfl) rfl rfl rfl ?_
   refine o_s (.t (.d (.lit (.int .i64 (wi (i + 1)))))) (g0 rfl) rfl rfl rfl ?_
   refine zA ?_
   repeat (first | refine zY ?_ | refine yF ?_ | refine yO ?_ | refine zS ?_ | refine yD ?_ | refine qL ?_ | refine qS rfl ?_)
   exact ⟨k, (y.1, y.2, wi (n + (x.length : Int)), wi (i + 1)), [], Nat.lt_succ_self _, h, rfl, ⟨.inr ⟨_, rfl, zCq rfl _⟩, by (repeat (first | exact ObP.nil | refine ObP.cons (.inl rfl) ?_ | refine ObP.cons (.inr (fun _ => rfl)) ?_ | refine ObP.cons (.inr (zD4 (zDD _ _))) ?_ | refine ObP.cons (.inr (zGc _ _)) ?_))⟩, ⟨(.refl _), ⟨(.refl _), ⟨(.refl _), ⟨(.refl _), ⟨(.refl _), ⟨(.refl _), ⟨(.refl _), ⟨(.refl _), ⟨(.refl _), trivial⟩⟩⟩⟩⟩⟩⟩⟩⟩, rfl⟩
  ·
   refine c_f h9 rfl ?_
   refine qU ?_
   repeat (first | refine zY ?_ | refine yF ?_ | refine yO ?_ | refine zS ?_ | refine yD ?_ | refine qL ?_ | refine qS rfl ?_)
   refine zM ?_
   refine zG ?_
   refine o_s (.ck 62 [.live 0, .live 1, .fz (ar (cInt .u64) (0 : Int) ks 0 80)]) (g0 rfl) rfl rfl rfl ?_
   refine o_s (.t (.d (.lit (.int .i64 n)))) (g0 rfl) rfl rfl rfl ?_
   obtain ⟨pd, h3, h⟩ := bind_some h
   refine o_ca (zIm _ _ h3) (g0 rfl) rfl rfl rfl rfl rfl rfl rfl (.cons (.refl _) .nil) rfl rfl ?_
   obtain ⟨y, h4, h⟩ := bind_some h
   refine o_of (e := [(HK, .hp (hpQ (.own OFB 1 (zD y.1)) y.2)), (31, .tup [])]) (g0 rfl) (h_callC (args := [.t (.d (.seq 1 (zD pd)))]) (Mk.refl _) rfl rfl rfl rfl rfl ⟨_, Tryd.func62, rfl, rfl⟩ (zIJ ks pd lf s1 y h4) (zCq rfl _) (zCq rfl _) (.cons (.plain (.refl _) rfl) .nil) rfl (.tup .nil)) rfl ?_
   refine zA ?_
   repeat (first | refine zY ?_ | refine yF ?_ | refine yO ?_ | refine zS ?_ | refine yD ?_ | refine qL ?_ | refine qS rfl ?_)
   refine zM ?_
   refine zG ?_
   refine o_of (e := [((OB + 0), .box (fl (dT cU8) (List.replicate 64 (0 : UInt8)))), (10, .t (.ptr 0 0))]) (g0 rfl) (zGD (Mk.refl _) rfl rfl rfl rfl (by kernel_rfl) rfl rfl rfl rfl) rfl ?_
   refine zA ?_
   repeat (first | refine zY ?_ | refine yF ?_ | refine yO ?_ | refine zS ?_ | refine yD ?_ | refine qL ?_ | refine qS rfl ?_)
   refine zM ?_
   refine zBN zC8 (by kernel_rfl) ?_
   refine d_h0 [OB + 0] (e := [(32, .t (.view 0 0 0 1 64))]) (ks := [32]) rfl (dg0 rfl) rfl rfl (fun S' hM hok => h_sla hM rfl rfl rfl rfl rfl rfl rfl (by kernel_rfl) rfl (by decide) rfl rfl (hok _ rfl rfl)) rfl ?_
   refine d_h (e := [(33, .t (.hvw 1 0 0 1 8))]) (ks := [33]) rfl (dg0 rfl) rfl rfl (fun S' hM hk hok => h_slah hM hk rfl rfl rfl rfl rfl rfl rfl (Nat.le_of_ble_eq_true rfl) rfl (by decide) rfl rfl (hok _ rfl rfl)) rfl ?_
   obtain ⟨b, h5, h⟩ := bind_some h
   obtain ⟨_, h6, h⟩ := bind_some h
   have hb0 : zD b ≠ [] := by
    intro e
    have : b = [] := List.map_eq_nil_iff.1 e
    subst this
    cases h6
   refine d_h (e := [(34, .t (.own 5 1 (zD b)))]) (ks := [34]) rfl (dg0 rfl) rfl rfl (fun S' hM hk hok => h_lookO hM hk rfl rfl rfl (hok _ rfl rfl) rfl rfl rfl (zEC _ _ h5) (.cons (.d (.hv (l := List.map T.d (ar (cInt .u64) (0 : Int) y.2 0 8)) (rs := List.map (cInt .u64) (padA (0 : Int) y.2 0 8)) (.inr ⟨_, rfl, rfl⟩) (map_row (c := cInt .u64) (k := 1) (fun _ => rfl) _) rfl rfl)) .nil) hb0 (fun r hr x hx => by
    obtain ⟨z, _, rfl⟩ := List.mem_map.1 hr
    cases hx with
    | head => rfl
    | tail _ h => cases h) rfl) rfl ?_
   obtain ⟨o, h7, h⟩ := bind_some h
   refine d_h0 [OB + 0] (e := [((OB + 0), .box (fl (dT cU8) o)), (35, .t (.d (.lit (.int .i64 ((min b.length 64 : Nat) : Int)))))]) (ks := [(OB + 0), 35]) rfl (dg0 rfl) rfl rfl (fun S' hM hok => h_cpy (cc := cU8) (yl := b) hM rfl rfl rfl rfl rfl rfl (fun _ => rfl) rfl h7 rfl rfl (hok _ rfl rfl)) rfl ?_
   refine zCi (by kernel_rfl) ?_
   repeat (first | refine zY ?_ | refine yF ?_ | refine yO ?_ | refine zS ?_ | refine yD ?_ | refine qL ?_ | refine qS rfl ?_)
   refine zM ?_
   refine zG ?_
   obtain ⟨_, h8, h⟩ := bind_some h
   refine o_of (e := [(36, .t (.agg (ar cU8 (0 : UInt8) o 0 64)))]) (g0 rfl) (zEb (z := (0 : UInt8)) (Mk.refl _) rfl rfl rfl rfl (fun _ => rfl) (zBt h8) rfl rfl rfl) rfl ?_
   refine o_st (b := 2) (.box (List.map T.d (ar cU8 (0 : UInt8) o 0 64))) (g0 rfl) rfl rfl (by kernel_rfl) ?_
   refine zA ?_
   repeat (first | refine zY ?_ | refine yF ?_ | refine yO ?_ | refine zS ?_ | refine yD ?_ | refine qL ?_ | refine qS rfl ?_)
   refine zH ?_
   repeat (first | refine zY ?_ | refine yF ?_ | refine yO ?_ | refine zS ?_ | refine yD ?_ | refine qL ?_ | refine qS rfl ?_)
   obtain rfl := Option.some.inj h
   exact ⟨⟨_, rfl, (.refl _)⟩, trivial, rfl⟩
theorem zEw (p0 : List (List UInt8)) (r : List UInt8) (h : zCm p0 = some r) : FC Tryd.prog 49 [.t (.d (.seq 1 (List.map (cSl 1 cU8) p0)))] [] (.t (.agg (ar cU8 (0 : UInt8) r 0 64))) := by
 unfold zCm at h
 cases h3 : sum3 p0 with
 | none => rw [h3] at h; cases h
 | some r3 =>
  rw [h3] at h
  injection h with h
  subst h
  exact zHn (fch_sum3 p0 r3 h3) hpA_e rfl (Nat.le_of_ble_eq_true rfl)
end Go.Proofs.YtmgafkpkpmjieaaDoor

/-
 Strings: pieces of strings, strings put together. Arrays of numbers held against each other.
-/
namespace Go.Proofs.YtmgafkpkpmjieaaDoor
open Go Go.RowKit
set_option linter.unusedVariables false
theorem cutSE {l z : List UInt8} {lo hi : Int} (h : cutI l lo hi = some z) : A.t (.d (.lit (.string ((ByteArray.mk ⟨l⟩).extract ((some lo).getD 0).toNat ((some hi).getD ((ByteArray.mk ⟨l⟩).size)).toNat)))) = .t (.d (.lit (.string ⟨⟨z⟩⟩))) := by
 unfold cutI at h
 split at h
 ·
  rename_i k
  injection h with h
  subst h
  congr 4
  apply ByteArray.ext
  rw [ByteArray.data_extract]
  apply Array.ext'
  simp [List.extract_eq_take_drop, List.drop_take]
 · cases h
theorem cutSC {l z : List UInt8} {lo hi : Int} (h : cutI l lo hi = some z) : 0 ≤ (some lo).getD 0 ∧ (some lo).getD 0 ≤ (some hi).getD ((ByteArray.mk ⟨l⟩).size : Int) ∧ (some hi).getD ((ByteArray.mk ⟨l⟩).size : Int) ≤ ((ByteArray.mk ⟨l⟩).size : Int) := by
 unfold cutI at h
 split at h
 ·
  rename_i k
  exact ⟨k.1, k.2.1, k.2.2⟩
 · cases h
def sadd (a b : List UInt8) : Option (List UInt8) := if a.length + b.length ≤ 9223372036854775807 then some (a ++ b) else none
theorem addS {P : Program} {pins : List Nat} {tk : Bool} {M : Nat → A} {d : Nat} {t yt : TypeId} {x y : Operand} {a b z : List UInt8} (hx : vO M x = some (.string ⟨⟨a⟩⟩)) (hy : vO M y = some (.string ⟨⟨b⟩⟩)) (h : sadd a b = some z) {op : Op} (ho : op = .binOp .add t x y yt) : opF P pins tk M d op = some (True, [(d, .t (.d (.lit (.string ⟨⟨z⟩⟩))))]) := by
 subst ho
 unfold sadd at h
 split at h
 ·
  rename_i k
  injection h with h
  subst h
  have h2 : Op.stringOp .add ⟨⟨a⟩⟩ ⟨⟨b⟩⟩ = .pure (.string ⟨⟨a ++ b⟩⟩) := by
   have : ¬ ((((ByteArray.mk ⟨a⟩).size + (ByteArray.mk ⟨b⟩).size : Nat) : Int) > IntKind.i64.max) := by
    show ¬ (((a.length + b.length : Nat) : Int) > 9223372036854775807)
    omega
   have e : (ByteArray.mk ⟨a⟩) ++ (ByteArray.mk ⟨b⟩) = ByteArray.mk ⟨a ++ b⟩ := by
    apply ByteArray.ext
    rw [ByteArray.data_append]
    simp
   simp only [Op.stringOp]
   rw [if_neg this, e]
   rfl
  show (valF P M (.binOp .add t x y yt)).map _ = _
  simp only [valF]
  rw [hx, hy]
  show Option.map _ (Option.map _ (binV .add (.string _) (.string _))) = _
  rw [zH8, h2]
  rfl
 · cases h
end Go.Proofs.YtmgafkpkpmjieaaDoor

/-
 Models of functions: printed by a program of this claim's own (gen.py) off the given translation.
-/
namespace Go.Proofs.YtmgafkpkpmjieaaDoor
open Go Go.RowKit
set_option linter.unusedVariables false
structure zC where
 Kind : Int
 User : (List UInt8)
 Folder : (List UInt8)
 Name : (List UInt8)
 Other : (List UInt8)
 Role : Int
 Version : Int
 Data : (List UInt8)
abbrev qW (x : zC) : List D := [.lit (.int .i64 x.Kind), .lit (.string ⟨⟨x.User⟩⟩), .lit (.string ⟨⟨x.Folder⟩⟩), .lit (.string ⟨⟨x.Name⟩⟩), .lit (.string ⟨⟨x.Other⟩⟩), .lit (.int .i64 x.Role), .lit (.int .i64 x.Version), .seq 1 (zD x.Data)]
structure zQ where
 Fuse : Int
 Choices : (List UInt8)
 Again : Int
 More : (List UInt8)
structure zB where
 Kind : Int
 C : zC
 At : Int
 O : zQ
 Key : (List UInt8)
 With : (List UInt8)
 B : (List UInt8)
abbrev zF (x : zB) : List D := [.lit (.int .i64 x.Kind), .lit (.int .i64 x.C.Kind), .lit (.string ⟨⟨x.C.User⟩⟩), .lit (.string ⟨⟨x.C.Folder⟩⟩), .lit (.string ⟨⟨x.C.Name⟩⟩), .lit (.string ⟨⟨x.C.Other⟩⟩), .lit (.int .i64 x.C.Role), .lit (.int .i64 x.C.Version), .seq 1 (zD x.C.Data), .lit (.int .i64 x.At), .lit (.int .i64 x.O.Fuse), .seq 1 (zD x.O.Choices), .lit (.int .i64 x.O.Again), .seq 1 (zD x.O.More), .lit (.string ⟨⟨x.Key⟩⟩), .lit (.string ⟨⟨x.With⟩⟩), .seq 1 (zD x.B)]
def zAL (p0 : (List UInt8)) : Option Bool :=
some (decide ((p0.length : Int) > 1048576))
def qZ (p0 : (List (List UInt8))) (p1 : ((List UInt8) → Option Bool)) : Nat → Int → Option Int
 | 0, _ => none
 | nl1 + 1, z1 =>
  bif (decide (z1 < (p0.length : Int))) then (Option.bind (idx p0 z1) fun x3 =>
  Option.bind (p1 x3) fun x5 =>
  bif x5 then (some z1) else ((qZ p0 p1 nl1) (wi (z1 + 1)))) else (some (-1))
def zAp (p0 : (List (List UInt8))) (p1 : ((List UInt8) → Option Bool)) : Option Int :=
qZ p0 p1 (p0.length + 1) 0
def yY (p0 : (List (List UInt8))) (p1 : ((List UInt8) → Option Bool)) : Option Bool :=
Option.bind (zAp p0 p1) fun x1 =>
some (decide (x1 ≥ 0))
def zAM (x2 : Nat) (p1 : UInt8) : Nat → Int → (List UInt8) → Option (List UInt8)
 | 0, _, _ => none
 | nl2 + 1, z8, z9 =>
  bif (decide (z8 < ((x2 : Nat) : Int))) then (Option.bind (idx z9 z8) fun x11 =>
  Option.bind (idx z9 z8) fun x13 =>
  (zAM x2 p1 nl2) (wi (z8 + 1)) (z9.set (Int.toNat z8) (U8 ((((BitVec.ofInt IntKind.u8.bits (x11.toNat : Int)) ^^^ (BitVec.ofInt IntKind.u8.bits (p1.toNat : Int))).toNat : Nat) : Int)))) else (some z9)
def zBm (p1 : UInt8) (y1 : (List UInt8)) : Option (List UInt8) :=
Option.bind (mkI 1 128) fun x2 =>
Option.bind (cpyI (List.replicate x2 (0 : UInt8)) 0 x2 y1) fun x4 =>
Option.bind (lenI x4.length (List.replicate x2 (0 : UInt8)).length) fun x6 =>
zAM x2 p1 (Int.toNat ((x2 : Nat) : Int) + 1) 0 x4
def zCJ (p0 : (List UInt8)) (p1 : UInt8) : Option (List UInt8) :=
bif (decide ((p0.length : Int) > 128)) then (Option.bind (zCm [p0]) fun x16 =>
Option.bind (cutI (padA (0 : UInt8) x16 0 64) 0 (64 : Int)) fun x18 =>
zBm p1 x18) else (zBm p1 p0)
def zCr (p0 : (List UInt8)) (p1 : (List (List UInt8))) : Option (List UInt8) :=
Option.bind (zCJ p0 54) fun x1 =>
Option.bind (appI 24 [x1] p1) fun x3 =>
Option.bind (zCm x3) fun x5 =>
Option.bind (zCJ p0 92) fun x7 =>
Option.bind (cutI (padA (0 : UInt8) x5 0 64) 0 (64 : Int)) fun x9 =>
Option.bind (zCm [x7, x9]) fun x11 =>
some x11
def zCo (p0 : (List UInt8)) (y9 : (List (List UInt8))) : Option ((List UInt8) × Int) :=
Option.bind (zCr p0 y9) fun x10 =>
Option.bind (cutI (padA (0 : UInt8) x10 0 64) 0 32) fun x12 =>
Option.bind (s2aI 32 x12) fun x14 =>
some (x14, 0)
def zAZ (p2 : (List (List UInt8))) (p0 : (List UInt8)) : Nat → (List (List UInt8)) → Int → Option ((List UInt8) × Int)
 | 0, _, _ => none
 | nl2 + 1, z16, z17 =>
  bif (decide (z17 < (p2.length : Int))) then (Option.bind (idx p2 z17) fun x19 =>
  Option.bind (zBX (x19.length : Int) 4) fun x21 =>
  Option.bind (appI 24 z16 [x21.1, x19]) fun x23 =>
  (zAZ p2 p0 nl2) x23 (wi (z17 + 1))) else (zCo p0 z16)
def zC3 (p0 : (List UInt8)) (p1 : (List UInt8)) (p2 : (List (List UInt8))) : Option ((List UInt8) × Int) :=
bif ((p0.length : Int) == 0) then (some (([] : (List UInt8)), 20)) else (bif (decide ((p1.length : Int) > 64)) then (some (([] : (List UInt8)), 3)) else (bif (decide ((p2.length : Int) > 16)) then (some (([] : (List UInt8)), 3)) else (Option.bind (yY p2 zAL) fun x4 =>
bif x4 then (some (([] : (List UInt8)), 3)) else (Option.bind (strB p1) fun x7 =>
zAZ p2 p0 (p2.length + 1) [[(U8 (p1.length : Int))], x7] 0))))
def zD1 (p0 : (List UInt8)) (p1 : Int) : Option ((List UInt8) × Int) :=
bif (decide (p1 < 0)) then (some (([] : (List UInt8)), 2)) else (bif (decide (p1 > 1024)) then (some (([] : (List UInt8)), 2)) else (Option.bind (zBX p1 8) fun x3 =>
Option.bind (cutI (padA (0 : UInt8) p0 0 32) 0 (32 : Int)) fun x5 =>
Option.bind (zC3 x5 [108, 111, 116] [x3.1]) fun x7 =>
some (x7.1, x7.2)))
def qV (p0 : UInt8) (p1 : Int) : Option (List UInt8) :=
some [p0, (U8 (48 + ((U8 p1).toNat : Int)))]
def zJ (p0 : Int) (p1 : Int) (c2 : (List UInt8)) : Option Int :=
Option.bind (idxA 32 (padA (0 : UInt8) c2 0 32) p0) fun x1 =>
Option.bind (remI .i64 (x1.toNat : Int) p1) fun x3 =>
some x3
def zDn (p0 : Int) (p1 : (List UInt8)) : Option (List UInt8) :=
Option.bind (qV 102 p0) fun x1 =>
bif (decide (p0 < 5)) then (bif (!(x1 == p1)) then (some x1) else (some [])) else (some [])
def zA3 (p0 : (List UInt8)) (x3 : Int) (x7 : (List UInt8)) (x18 : (List UInt8)) (y57 : Bool) : Option zC :=
bif y57 then (Option.bind (zJ 3 2 p0) fun x59 =>
Option.bind (qV 120 x59) fun x61 =>
some (zC.mk x3 x7 x18 x61 [] 0 0 [])) else (some (zC.mk x3 x7 x18 [] [] 0 0 []))
def zA5 (p0 : (List UInt8)) (x3 : Int) (x7 : (List UInt8)) (x18 : (List UInt8)) (y26 : Bool) : Option zC :=
bif y26 then (Option.bind (zJ 7 4 p0) fun x28 =>
Option.bind (qV 117 x28) fun x30 =>
Option.bind (zJ 4 4 p0) fun x32 =>
some (zC.mk x3 x7 x18 [] x30 (wi (1 + x32)) 0 [])) else (bif (x3 == 7) then (Option.bind (zJ 7 4 p0) fun x35 =>
Option.bind (qV 117 x35) fun x37 =>
some (zC.mk x3 x7 x18 [] x37 0 0 [])) else (bif (x3 == 8) then (Option.bind (zJ 3 2 p0) fun x40 =>
Option.bind (qV 120 x40) fun x42 =>
Option.bind (zJ 6 9 p0) fun x44 =>
Option.bind (cutI (padA (0 : UInt8) p0 0 32) 16 (wi (16 + x44))) fun x46 =>
Option.bind (appI 1 [] x46) fun x48 =>
some (zC.mk x3 x7 x18 x42 [] 0 0 x48)) else (bif (x3 == 9) then (Option.bind (zJ 3 2 p0) fun x51 =>
Option.bind (qV 120 x51) fun x53 =>
Option.bind (zJ 5 3 p0) fun x55 =>
some (zC.mk x3 x7 x18 x53 [] 0 x55 [])) else (bif (x3 == 11) then (zA3 p0 x3 x7 x18 (x3 == 11)) else (zA3 p0 x3 x7 x18 (x3 == 12))))))
def zAz (p0 : (List UInt8)) (x18 : (List UInt8)) (x3 : Int) (x7 : (List UInt8)) (y20 : Bool) : Option zC :=
bif y20 then (Option.bind (zJ 7 6 p0) fun x22 =>
Option.bind (zDn x22 x18) fun x24 =>
some (zC.mk x3 x7 x18 [] x24 0 0 [])) else (bif (x3 == 5) then (zA5 p0 x3 x7 x18 (x3 == 5)) else (zA5 p0 x3 x7 x18 (x3 == 6)))
def zAk (p0 : (List UInt8)) : Option zC :=
Option.bind (zJ 0 17 p0) fun x1 =>
Option.bind (idx zBA x1) fun x3 =>
Option.bind (zJ 1 4 p0) fun x5 =>
Option.bind (qV 117 x5) fun x7 =>
bif (x3 == 14) then (Option.bind (zJ 1 4 p0) fun x10 =>
Option.bind (zJ 7 3 p0) fun x12 =>
Option.bind (qV 117 (Int.tmod (wi ((wi (x10 + 1)) + x12)) 4)) fun x14 =>
some (zC.mk x3 x7 [] [] x14 0 0 [])) else (Option.bind (zJ 2 5 p0) fun x16 =>
Option.bind (qV 102 x16) fun x18 =>
bif (x3 == 2) then (zAz p0 x18 x3 x7 (x3 == 2)) else (zAz p0 x18 x3 x7 (x3 == 3)))
def zAv (p0 : (List UInt8)) (p1 : Int) : Option (zC × Int) :=
Option.bind (zD1 p0 p1) fun x1 =>
bif (x1.2 != 0) then (some ((zC.mk 0 [] [] [] [] 0 0 []), x1.2)) else (bif (decide (p1 < 4)) then (Option.bind (qV 117 p1) fun x5 =>
some ((zC.mk 1 x5 [] [] [] 0 0 []), 0)) else (Option.bind (zAk x1.1) fun x7 =>
some (x7, 0)))
def zBv (p0 : (List UInt8)) (p1 : (List UInt8)) : Nat → Int → Option Bool
 | 0, _ => none
 | nl1 + 1, z2 =>
  bif (decide (z2 < (p0.length : Int))) then (Option.bind (idx p0 z2) fun x4 =>
  Option.bind (idx p1 z2) fun x6 =>
  bif ((x4.toNat : Int) != (x6.toNat : Int)) then (some false) else ((zBv p0 p1 nl1) (wi (z2 + 1)))) else (some true)
def zAY (p0 : (List UInt8)) (p1 : (List UInt8)) : Option Bool :=
bif ((p0.length : Int) != (p1.length : Int)) then (some false) else (zBv p0 p1 (p0.length + 1) 0)
def zBh (p0 : zC) (p1 : zC) : Option Bool :=
bif (p0.Kind == p1.Kind) then (bif (p0.User == p1.User) then (bif (p0.Folder == p1.Folder) then (bif (p0.Name == p1.Name) then (bif (p0.Other == p1.Other) then (bif (p0.Role == p1.Role) then (bif (p0.Version == p1.Version) then (Option.bind (zAY p0.Data p1.Data) fun x8 =>
some x8) else (some false)) else (some false)) else (some false)) else (some false)) else (some false)) else (some false)) else (some false)
def zDe : Option Bool :=
Option.bind (zAv [7, (0 : UInt8), (0 : UInt8), (0 : UInt8), (0 : UInt8), (0 : UInt8), (0 : UInt8), (0 : UInt8), (0 : UInt8), (0 : UInt8), (0 : UInt8), (0 : UInt8), (0 : UInt8), (0 : UInt8), (0 : UInt8), (0 : UInt8), (0 : UInt8), (0 : UInt8), (0 : UInt8), (0 : UInt8), (0 : UInt8), (0 : UInt8), (0 : UInt8), (0 : UInt8), (0 : UInt8), (0 : UInt8), (0 : UInt8), (0 : UInt8), (0 : UInt8), (0 : UInt8), (0 : UInt8), (0 : UInt8)] 0) fun x1 =>
bif (x1.2 == 0) then (Option.bind (zBh x1.1 (zC.mk 1 [117, 48] [] [] [] 0 0 [])) fun x4 =>
some x4) else (some false)
def zD6 (y5 : Int) (y6 : (List UInt8)) : Option ((List UInt8) × Int) :=
bif (decide (y5 > 0)) then (some ([], 2)) else (some (y6, 0))
def zBc (p1 : Int) : Nat → Int → (List UInt8) → Int → Option ((List UInt8) × Int)
 | 0, _, _, _ => none
 | nl2 + 1, z8, z9, z10 =>
  bif (decide (z10 < p1)) then (Option.bind (appI 1 z9 [(U8 (Int.tmod z8 256))]) fun x12 =>
  (zBc p1 nl2) (wi (Int.tdiv z8 256)) x12 (wi (z10 + 1))) else (zD6 z8 z9)
def zFs (p0 : Int) (p1 : Int) : Option ((List UInt8) × Int) :=
bif (decide (p1 < 1)) then (some ([], 2)) else (bif (decide (p1 > 8)) then (some ([], 2)) else (bif (decide (p0 < 0)) then (some ([], 2)) else (bif (decide (p0 > 4611686018427387904)) then (some ([], 2)) else (zBc p1 (Int.toNat p1 + 1) p0 [] 0))))
def zA9 (p0 : (List UInt8)) : Nat → (List UInt8) → Int → Option (List UInt8)
 | 0, _, _ => none
 | nl1 + 1, z1, z2 =>
  bif (decide (z2 ≥ 0)) then (Option.bind (idx p0 z2) fun x4 =>
  Option.bind (appI 1 z1 [x4]) fun x6 =>
  (zA9 p0 nl1) x6 (wi (z2 - 1))) else (some z1)
def zCy (p0 : (List UInt8)) : Option (List UInt8) :=
zA9 p0 (Int.toNat (wi ((p0.length : Int) - 1)) + 2) [] (wi ((p0.length : Int) - 1))
def zCe (p0 : Int) (p1 : Int) : Option ((List UInt8) × Int) :=
Option.bind (zFs p0 p1) fun x1 =>
Option.bind (zCy x1.1) fun x3 =>
some (x3, x1.2)
def zBH (p0 : (List UInt8)) : Nat → (List UInt8) → Int → Option (List UInt8)
 | 0, _, _ => none
 | nl1 + 1, z1, z2 =>
  bif (decide (z2 < 64)) then (Option.bind (idxA 64 (padA (0 : UInt8) p0 0 64) z2) fun x4 =>
  Option.bind (appI 1 z1 [x4]) fun x6 =>
  (zBH p0 nl1) x6 (wi (z2 + 1))) else (some z1)
def zEI (p0 : (List UInt8)) : Option (List UInt8) :=
zBH p0 (Int.toNat 64 + 1) [] 0
def zEE : Option (List Int) :=
some [4794697086780616226, 8158064640168781261, 13096744586834688815, 16840607885511220156, 4131703408338449720, 6480981068601479193, 10538285296894168987, 12329834152419229976, 15566598209576043074, 1334009975649890238, 2608012711638119052, 6128411473006802146, 8268148722764581231, 9286055187155687089, 11230858885718282805, 13951009754708518548, 16472876342353939154, 17275323862435702243, 1135362057144423861, 2597628984639134821, 3308224258029322869, 5365058923640841347, 6679025012923562964, 8573033837759648693, 10970295158949994411, 12119686244451234320, 12683024718118986047, 13788192230050041572, 14330467153632333762, 15395433587784984357, 489312712824947311, 1452737877330783856, 2861767655752347644, 3322285676063803686, 5560940570517711597, 5996557281743188959, 7280758554555802590, 8532644243296465576, 9350256976987008742, 10552545826968843579, 11727347734174303076, 12113106623233404929, 14000437183269869457, 14369950271660146224, 15101387698204529176, 15463397548674623760, 17586052441742319658, 1182934255886127544, 1847814050463011016, 2177327727835720531, 2830643537854262169, 3796741975233480872, 4115178125766777443, 5681478168544905931, 6601373596472566643, 7507060721942968483, 8399075790359081724, 8693463985226723168, 9568029438360202098, 10144078919501101548, 10430055236837252648, 11840083180663258601, 13761210420658862357, 14299343276471374635, 14566680578165727644, 15097957966210449927, 16922976911328602910, 17689382322260857208, 500013540394364858, 748580250866718886, 1242879168328830382, 1977374033974150939, 2944078676154940804, 3659926193048069267, 4368137639120453308, 4836135668995329356, 5532061633213252278, 6448918945643986474, 6902733635092675308, 7801388544844847127]
def zBY (p0 : Int) : Nat → (List UInt8) → Int → Int → Option (List UInt8)
 | 0, _, _, _ => none
 | nl3 + 1, z3, z4, z5 =>
  bif (decide (z5 < 8)) then (Option.bind (quoI .u64 (IntKind.u64.wrap ((IntKind.u64.wrap p0) * 8)) z4) fun x7 =>
  Option.bind (appI 1 z3 [(U8 (Int.tmod x7 256))]) fun x9 =>
  (zBY p0 nl3) x9 (IntKind.u64.wrap (Int.tdiv z4 256)) (wi (z5 + 1))) else (some z3)
def zD3 (p0 : Int) (y2 : (List UInt8)) : Option (List UInt8) :=
zBY p0 (Int.toNat 8 + 1) y2 72057594037927936 0
def zBe (p0 : Int) : Nat → (List UInt8) → Int → Option (List UInt8)
 | 0, _, _ => none
 | nl4 + 1, z11, z12 =>
  bif (decide (z12 < 8)) then (Option.bind (appI 1 z11 [0]) fun x14 =>
  (zBe p0 nl4) x14 (wi (z12 + 1))) else (zD3 p0 z11)
def zD8 (p0 : Int) (y1 : (List UInt8)) : Option (List UInt8) :=
zBe p0 (Int.toNat 8 + 1) y1 0
def zBa (p0 : Int) : Nat → (List UInt8) → Option (List UInt8)
 | 0, _ => none
 | nl5 + 1, z16 =>
  bif ((Int.tmod (wi (p0 + (z16.length : Int))) 128) != 112) then (Option.bind (appI 1 z16 [0]) fun x18 =>
  (zBa p0 nl5) x18) else (zD8 p0 z16)
def zEj (p0 : Int) : Option (List UInt8) :=
zBa p0 (140) [128]
def zDi : Option (List Int) :=
some [7640891576956012808, 13503953896175478587, 4354685564936845355, 11912009170470909681, 5840696475078001361, 11170449401992604703, 2270897969802886507, 6620516959819538809]
def zBC (p0 : (List UInt8)) : Nat → Int → Int → Option Int
 | 0, _, _ => none
 | nl1 + 1, z1, z2 =>
  bif (decide (z2 < (p0.length : Int))) then (Option.bind (idx p0 z2) fun x4 =>
  (zBC p0 nl1) (IntKind.u64.wrap ((IntKind.u64.wrap (256 * z1)) + (x4.toNat : Int))) (wi (z2 + 1))) else (some z1)
def zE2 (p0 : (List UInt8)) : Option Int :=
zBC p0 (p0.length + 1) 0 0
def zCY (p0 : Int) (y1 : Int) : Option Int :=
Option.bind (quoI .u64 p0 y1) fun x2 =>
Option.bind (remI .u64 p0 y1) fun x4 =>
Option.bind (quoI .u64 9223372036854775808 y1) fun x6 =>
some (IntKind.u64.wrap (x2 + (IntKind.u64.wrap (x4 * (IntKind.u64.wrap (x6 * 2))))))
def zBD (p1 : Int) (p0 : Int) : Nat → Int → Int → Option Int
 | 0, _, _ => none
 | nl2 + 1, z8, z9 =>
  bif (decide (z9 < p1)) then ((zBD p1 p0 nl2) (IntKind.u64.wrap (z8 * 2)) (wi (z9 + 1))) else (zCY p0 z8)
def zAJ (p0 : Int) (p1 : Int) : Option Int :=
zBD p1 p0 (Int.toNat p1 + 1) 1 0
def zAu (p1 : Int) : Nat → Int → Int → Option Int
 | 0, _, _ => none
 | nl1 + 1, z1, z2 =>
  bif (decide (z2 < p1)) then ((zAu p1 nl1) (IntKind.u64.wrap (Int.tdiv z1 2)) (wi (z2 + 1))) else (some z1)
def zBS (p0 : Int) (p1 : Int) : Option Int :=
zAu p1 (Int.toNat p1 + 1) p0 0
def zC1 (kl2 : Int → (List UInt8) → Option (List UInt8)) (z12 : Int) (y15 : (List UInt8)) : Option (List UInt8) :=
kl2 (wi (z12 + 1)) y15
def zBZ (kl2 : Int → (List UInt8) → Option (List UInt8)) (y11 : (List Int)) (z12 : Int) : Nat → Int → Int → (List UInt8) → Option (List UInt8)
 | 0, _, _, _ => none
 | nl4 + 1, z16, z17, z18 =>
  bif (decide (z17 < 8)) then (Option.bind (idx y11 z12) fun x20 =>
  Option.bind (quoI .u64 x20 z16) fun x22 =>
  Option.bind (idxA 64 z18 (wi ((wi (8 * z12)) + z17))) fun x24 =>
  (zBZ kl2 y11 z12 nl4) (IntKind.u64.wrap (Int.tdiv z16 256)) (wi (z17 + 1)) (z18.set (Int.toNat (wi ((wi (8 * z12)) + z17))) (U8 (Int.tmod x22 256)))) else (zC1 kl2 z12 z18)
def zAQ (y11 : (List Int)) : Nat → Int → (List UInt8) → Option (List UInt8)
 | 0, _, _ => none
 | nl2 + 1, z12, z13 =>
  bif (decide (z12 < 8)) then (zBZ (zAQ y11 nl2) y11 z12 (Int.toNat 8 + 1) 72057594037927936 0 z13) else (Option.bind (lenI z13.length 64) fun x26 =>
  some z13)
def zCw (y11 : (List Int)) : Option (List UInt8) :=
zAQ y11 (Int.toNat 8 + 1) 0 (List.replicate 64 (0 : UInt8))
def zCD (kl5 : (List Int) → Int → Option (List UInt8)) (z28 : (List Int)) (z29 : Int) (y48 : Int) (y49 : Int) (y50 : Int) (y51 : Int) (y52 : Int) (y53 : Int) (y54 : Int) (y55 : Int) : Option (List UInt8) :=
Option.bind (idx z28 0) fun x56 =>
Option.bind (idx z28 1) fun x58 =>
Option.bind (idx z28 2) fun x60 =>
Option.bind (idx z28 3) fun x62 =>
Option.bind (idx z28 4) fun x64 =>
Option.bind (idx z28 5) fun x66 =>
Option.bind (idx z28 6) fun x68 =>
Option.bind (idx z28 7) fun x70 =>
kl5 [(IntKind.u64.wrap (x56 + y48)), (IntKind.u64.wrap (x58 + y49)), (IntKind.u64.wrap (x60 + y50)), (IntKind.u64.wrap (x62 + y51)), (IntKind.u64.wrap (x64 + y52)), (IntKind.u64.wrap (x66 + y53)), (IntKind.u64.wrap (x68 + y54)), (IntKind.u64.wrap (x70 + y55))] (wi (z29 + 128))
def zBd (kl5 : (List Int) → Int → Option (List UInt8)) (x1 : (List Int)) (y31 : (List Int)) (z28 : (List Int)) (z29 : Int) : Nat → Int → Int → Int → Int → Int → Int → Int → Int → Int → Option (List UInt8)
 | 0, _, _, _, _, _, _, _, _, _ => none
 | nl8 + 1, z72, z73, z74, z75, z76, z77, z78, z79, z80 =>
  bif (decide (z80 < 80)) then (Option.bind (zAJ z76 14) fun x82 =>
  Option.bind (zAJ z76 18) fun x84 =>
  Option.bind (zAJ z76 41) fun x86 =>
  Option.bind (idx x1 z80) fun x88 =>
  Option.bind (idx y31 z80) fun x90 =>
  Option.bind (zAJ z72 28) fun x92 =>
  Option.bind (zAJ z72 34) fun x94 =>
  Option.bind (zAJ z72 39) fun x96 =>
  (zBd kl5 x1 y31 z28 z29 nl8) (IntKind.u64.wrap ((IntKind.u64.wrap ((IntKind.u64.wrap ((IntKind.u64.wrap ((IntKind.u64.wrap (z79 + (IntKind.u64.wrap ((((BitVec.ofInt IntKind.u64.bits (IntKind.u64.wrap ((((BitVec.ofInt IntKind.u64.bits x82) ^^^ (BitVec.ofInt IntKind.u64.bits x84)).toNat : Nat) : Int))) ^^^ (BitVec.ofInt IntKind.u64.bits x86)).toNat : Nat) : Int)))) + (IntKind.u64.wrap ((((BitVec.ofInt IntKind.u64.bits (IntKind.u64.wrap ((((BitVec.ofInt IntKind.u64.bits z76) &&& (BitVec.ofInt IntKind.u64.bits z77)).toNat : Nat) : Int))) ^^^ (BitVec.ofInt IntKind.u64.bits (IntKind.u64.wrap ((((BitVec.ofInt IntKind.u64.bits (IntKind.u64.wrap (18446744073709551615 - z76))) &&& (BitVec.ofInt IntKind.u64.bits z78)).toNat : Nat) : Int)))).toNat : Nat) : Int)))) + x88)) + x90)) + (IntKind.u64.wrap ((IntKind.u64.wrap ((((BitVec.ofInt IntKind.u64.bits (IntKind.u64.wrap ((((BitVec.ofInt IntKind.u64.bits x92) ^^^ (BitVec.ofInt IntKind.u64.bits x94)).toNat : Nat) : Int))) ^^^ (BitVec.ofInt IntKind.u64.bits x96)).toNat : Nat) : Int)) + (IntKind.u64.wrap ((((BitVec.ofInt IntKind.u64.bits (IntKind.u64.wrap ((((BitVec.ofInt IntKind.u64.bits (IntKind.u64.wrap ((((BitVec.ofInt IntKind.u64.bits z72) &&& (BitVec.ofInt IntKind.u64.bits z73)).toNat : Nat) : Int))) ^^^ (BitVec.ofInt IntKind.u64.bits (IntKind.u64.wrap ((((BitVec.ofInt IntKind.u64.bits z72) &&& (BitVec.ofInt IntKind.u64.bits z74)).toNat : Nat) : Int)))).toNat : Nat) : Int))) ^^^ (BitVec.ofInt IntKind.u64.bits (IntKind.u64.wrap ((((BitVec.ofInt IntKind.u64.bits z73) &&& (BitVec.ofInt IntKind.u64.bits z74)).toNat : Nat) : Int)))).toNat : Nat) : Int)))))) z72 z73 z74 (IntKind.u64.wrap (z75 + (IntKind.u64.wrap ((IntKind.u64.wrap ((IntKind.u64.wrap ((IntKind.u64.wrap (z79 + (IntKind.u64.wrap ((((BitVec.ofInt IntKind.u64.bits (IntKind.u64.wrap ((((BitVec.ofInt IntKind.u64.bits x82) ^^^ (BitVec.ofInt IntKind.u64.bits x84)).toNat : Nat) : Int))) ^^^ (BitVec.ofInt IntKind.u64.bits x86)).toNat : Nat) : Int)))) + (IntKind.u64.wrap ((((BitVec.ofInt IntKind.u64.bits (IntKind.u64.wrap ((((BitVec.ofInt IntKind.u64.bits z76) &&& (BitVec.ofInt IntKind.u64.bits z77)).toNat : Nat) : Int))) ^^^ (BitVec.ofInt IntKind.u64.bits (IntKind.u64.wrap ((((BitVec.ofInt IntKind.u64.bits (IntKind.u64.wrap (18446744073709551615 - z76))) &&& (BitVec.ofInt IntKind.u64.bits z78)).toNat : Nat) : Int)))).toNat : Nat) : Int)))) + x88)) + x90)))) z76 z77 z78 (wi (z80 + 1))) else (zCD kl5 z28 z29 z72 z73 z74 z75 z76 z77 z78 z79)
def zBg (kl5 : (List Int) → Int → Option (List UInt8)) (z28 : (List Int)) (x1 : (List Int)) (z29 : Int) (y31 : (List Int)) : Option (List UInt8) :=
Option.bind (idx z28 0) fun x32 =>
Option.bind (idx z28 1) fun x34 =>
Option.bind (idx z28 2) fun x36 =>
Option.bind (idx z28 3) fun x38 =>
Option.bind (idx z28 4) fun x40 =>
Option.bind (idx z28 5) fun x42 =>
Option.bind (idx z28 6) fun x44 =>
Option.bind (idx z28 7) fun x46 =>
zBd kl5 x1 y31 z28 z29 (Int.toNat 80 + 1) x32 x34 x36 x38 x40 x42 x44 x46 0
def zBu (kl9 : Int → (List Int) → Option (List UInt8)) (z98 : Int) (y101 : (List Int)) : Option (List UInt8) :=
kl9 (wi (z98 + 1)) y101
def zAG (kl5 : (List Int) → Int → Option (List UInt8)) (x7 : (List UInt8)) (z29 : Int) (z28 : (List Int)) (x1 : (List Int)) : Nat → Int → (List Int) → Option (List UInt8)
 | 0, _, _ => none
 | nl9 + 1, z98, z99 =>
  bif (decide (z98 < 80)) then (bif (decide (z98 < 16)) then (Option.bind (cutI x7 (wi (z29 + (wi (8 * z98)))) (wi ((wi (z29 + (wi (8 * z98)))) + 8))) fun x103 =>
  Option.bind (zE2 x103) fun x105 =>
  Option.bind (appI 8 z99 [x105]) fun x107 =>
  zBu (zAG kl5 x7 z29 z28 x1 nl9) z98 x107) else (Option.bind (idx z99 (wi (z98 - 15))) fun x109 =>
  Option.bind (idx z99 (wi (z98 - 2))) fun x111 =>
  Option.bind (idx z99 (wi (z98 - 16))) fun x113 =>
  Option.bind (zAJ x109 1) fun x115 =>
  Option.bind (zAJ x109 8) fun x117 =>
  Option.bind (zBS x109 7) fun x119 =>
  Option.bind (idx z99 (wi (z98 - 7))) fun x121 =>
  Option.bind (zAJ x111 19) fun x123 =>
  Option.bind (zAJ x111 61) fun x125 =>
  Option.bind (zBS x111 6) fun x127 =>
  Option.bind (appI 8 z99 [(IntKind.u64.wrap ((IntKind.u64.wrap ((IntKind.u64.wrap (x113 + (IntKind.u64.wrap ((((BitVec.ofInt IntKind.u64.bits (IntKind.u64.wrap ((((BitVec.ofInt IntKind.u64.bits x115) ^^^ (BitVec.ofInt IntKind.u64.bits x117)).toNat : Nat) : Int))) ^^^ (BitVec.ofInt IntKind.u64.bits x119)).toNat : Nat) : Int)))) + x121)) + (IntKind.u64.wrap ((((BitVec.ofInt IntKind.u64.bits (IntKind.u64.wrap ((((BitVec.ofInt IntKind.u64.bits x123) ^^^ (BitVec.ofInt IntKind.u64.bits x125)).toNat : Nat) : Int))) ^^^ (BitVec.ofInt IntKind.u64.bits x127)).toNat : Nat) : Int))))]) fun x129 =>
  zBu (zAG kl5 x7 z29 z28 x1 nl9) z98 x129)) else (zBg kl5 z28 x1 z29 z99)
def yW (x7 : (List UInt8)) (x1 : (List Int)) : Nat → (List Int) → Int → Option (List UInt8)
 | 0, _, _ => none
 | nl5 + 1, z28, z29 =>
  bif (decide (z29 < (x7.length : Int))) then (zAG (yW x7 x1 nl5) x7 z29 z28 x1 (Int.toNat 80 + 1) 0 []) else (zCw z28)
def zDQ (p0 : (List UInt8)) : Option (List UInt8) :=
Option.bind (zEE) fun x1 =>
Option.bind (appI 1 [] p0) fun x3 =>
Option.bind (zEj (p0.length : Int)) fun x5 =>
Option.bind (appI 1 x3 x5) fun x7 =>
Option.bind (zDi) fun x9 =>
yW x7 x1 (x7.length + 1) x9 0
def zCE (kl2 : (List UInt8) → Int → Option (List UInt8)) (z3 : Int) (y5 : (List UInt8)) : Option (List UInt8) :=
kl2 y5 (wi (z3 + 1))
def zAR (y1 : (List UInt8)) (p1 : UInt8) : Nat → (List UInt8) → Int → Option (List UInt8)
 | 0, _, _ => none
 | nl2 + 1, z2, z3 =>
  bif (decide (z3 < 128)) then (bif (decide (z3 < (y1.length : Int))) then (Option.bind (idx y1 z3) fun x7 =>
  Option.bind (appI 1 z2 [(U8 ((((BitVec.ofInt IntKind.u8.bits (x7.toNat : Int)) ^^^ (BitVec.ofInt IntKind.u8.bits (p1.toNat : Int))).toNat : Nat) : Int))]) fun x9 =>
  zCE (zAR y1 p1 nl2) z3 x9) else (Option.bind (appI 1 z2 [p1]) fun x11 =>
  zCE (zAR y1 p1 nl2) z3 x11)) else (some z2)
def zC2 (p1 : UInt8) (y1 : (List UInt8)) : Option (List UInt8) :=
zAR y1 p1 (Int.toNat 128 + 1) [] 0
def zD7 (p0 : (List UInt8)) (p1 : UInt8) : Option (List UInt8) :=
bif (decide ((p0.length : Int) > 128)) then (Option.bind (zDQ p0) fun x14 =>
Option.bind (zEI x14) fun x16 =>
zC2 p1 x16) else (zC2 p1 p0)
def zEl (p0 : (List UInt8)) (p1 : (List UInt8)) : Option (List UInt8) :=
Option.bind (zD7 p0 54) fun x1 =>
Option.bind (appI 1 x1 p1) fun x3 =>
Option.bind (zD7 p0 92) fun x5 =>
Option.bind (zDQ x3) fun x7 =>
Option.bind (zEI x7) fun x9 =>
Option.bind (appI 1 x5 x9) fun x11 =>
Option.bind (zDQ x11) fun x13 =>
some x13
def zD2 (y16 : (List UInt8)) : Option ((List UInt8) × Int) :=
Option.bind (lenI y16.length 32) fun x17 =>
some (y16, 0)
def zBW (x12 : (List UInt8)) : Nat → Int → (List UInt8) → Option ((List UInt8) × Int)
 | 0, _, _ => none
 | nl4 + 1, z19, z20 =>
  bif (decide (z19 < 32)) then (Option.bind (idxA 64 (padA (0 : UInt8) x12 0 64) z19) fun x22 =>
  Option.bind (idxA 32 z20 z19) fun x24 =>
  (zBW x12 nl4) (wi (z19 + 1)) (z20.set (Int.toNat z19) x22)) else (zD2 z20)
def zD5 (p0 : (List UInt8)) (y11 : (List UInt8)) : Option ((List UInt8) × Int) :=
Option.bind (zEl p0 y11) fun x12 =>
Option.bind (lenI (List.replicate 64 (0 : UInt8)).length 64) fun x14 =>
zBW x12 (Int.toNat 32 + 1) 0 (List.replicate 32 (0 : UInt8))
def zBb (p2 : (List (List UInt8))) (p0 : (List UInt8)) : Nat → (List UInt8) → Int → Option ((List UInt8) × Int)
 | 0, _, _ => none
 | nl5 + 1, z26, z27 =>
  bif (decide (z27 < (p2.length : Int))) then (Option.bind (idx p2 z27) fun x29 =>
  Option.bind (zCe (x29.length : Int) 4) fun x31 =>
  Option.bind (appI 1 z26 x31.1) fun x33 =>
  Option.bind (idx p2 z27) fun x35 =>
  Option.bind (appI 1 x33 x35) fun x37 =>
  (zBb p2 p0 nl5) x37 (wi (z27 + 1))) else (zD5 p0 z26)
def zC5 (p2 : (List (List UInt8))) (p0 : (List UInt8)) (y10 : (List UInt8)) : Option ((List UInt8) × Int) :=
zBb p2 p0 (p2.length + 1) y10 0
def zCv (p1 : (List UInt8)) (p2 : (List (List UInt8))) (p0 : (List UInt8)) : Nat → (List UInt8) → Int → Option ((List UInt8) × Int)
 | 0, _, _ => none
 | nl6 + 1, z39, z40 =>
  bif (decide (z40 < (p1.length : Int))) then (Option.bind (idx p1 z40) fun x42 =>
  Option.bind (appI 1 z39 [x42]) fun x44 =>
  (zCv p1 p2 p0 nl6) x44 (wi (z40 + 1))) else (zC5 p2 p0 z39)
def zEf (p0 : (List UInt8)) (p1 : (List UInt8)) (p2 : (List (List UInt8))) : Option ((List UInt8) × Int) :=
bif ((p0.length : Int) == 0) then (Option.bind (lenI (List.replicate 32 (0 : UInt8)).length 32) fun x2 =>
some ((List.replicate 32 (0 : UInt8)), 20)) else (bif (decide ((p1.length : Int) > 64)) then (Option.bind (lenI (List.replicate 32 (0 : UInt8)).length 32) fun x5 =>
some ((List.replicate 32 (0 : UInt8)), 3)) else (bif (decide ((p2.length : Int) > 16)) then (Option.bind (lenI (List.replicate 32 (0 : UInt8)).length 32) fun x8 =>
some ((List.replicate 32 (0 : UInt8)), 3)) else (zCv p1 p2 p0 (p1.length + 1) [(U8 (p1.length : Int))] 0)))
def zDO (p0 : (List UInt8)) (p1 : Int) : Option (List UInt8) :=
Option.bind (zCe p1 8) fun x1 =>
Option.bind (cutI (padA (0 : UInt8) p0 0 32) 0 (32 : Int)) fun x3 =>
Option.bind (zEf x3 [108, 111, 116] [x1.1]) fun x5 =>
some x5.1
def qX (p0 : (List UInt8)) (p1 : Int) : Option (List UInt8) :=
Option.bind (cutI [48, 49, 50, 51, 52, 53, 54, 55, 56, 57] p1 (wi (p1 + 1))) fun x1 =>
Option.bind (sadd p0 x1) fun x3 =>
some x3
def zAl (x4 : (List UInt8)) (x8 : Int) (x12 : (List UInt8)) (x21 : (List UInt8)) (y26 : (List UInt8)) (y24 : (List UInt8)) (y25 : Int) (y27 : Int) : Nat → (List UInt8) → Int → Option zC
 | 0, _, _ => none
 | nl6 + 1, z29, z30 =>
  Option.bind (idxA 32 (padA (0 : UInt8) x4 0 32) 6) fun x31 =>
  bif (decide (z30 < (Int.tmod (x31.toNat : Int) 9))) then (Option.bind (idxA 32 (padA (0 : UInt8) x4 0 32) (wi (16 + z30))) fun x34 =>
  Option.bind (appI 1 z29 [x34]) fun x36 =>
  (zAl x4 x8 x12 x21 y26 y24 y25 y27 nl6) x36 (wi (z30 + 1))) else (some (zC.mk x8 x12 x21 y26 y24 y25 y27 z29))
def zCV (x8 : Int) (x4 : (List UInt8)) (x12 : (List UInt8)) (x21 : (List UInt8)) (y26 : (List UInt8)) (y24 : (List UInt8)) (y25 : Int) (y27 : Int) : Option zC :=
bif (x8 == 8) then (zAl x4 x8 x12 x21 y26 y24 y25 y27 (10) [] 0) else (some (zC.mk x8 x12 x21 y26 y24 y25 y27 []))
def zAm (x8 : Int) (x4 : (List UInt8)) (x12 : (List UInt8)) (x21 : (List UInt8)) (y24 : (List UInt8)) (y25 : Int) (y26 : (List UInt8)) : Option zC :=
bif (x8 == 9) then (Option.bind (idxA 32 (padA (0 : UInt8) x4 0 32) 5) fun x39 =>
zCV x8 x4 x12 x21 y26 y24 y25 (Int.tmod (x39.toNat : Int) 3)) else (zCV x8 x4 x12 x21 y26 y24 y25 0)
def zBn (x8 : Int) (x4 : (List UInt8)) (x12 : (List UInt8)) (x21 : (List UInt8)) (y24 : (List UInt8)) (y25 : Int) : Option zC :=
bif (x8 == 8) then (Option.bind (idxA 32 (padA (0 : UInt8) x4 0 32) 3) fun x42 =>
Option.bind (qX [120] (Int.tmod (x42.toNat : Int) 2)) fun x44 =>
zAm x8 x4 x12 x21 y24 y25 x44) else (bif (x8 == 9) then (Option.bind (idxA 32 (padA (0 : UInt8) x4 0 32) 3) fun x47 =>
Option.bind (qX [120] (Int.tmod (x47.toNat : Int) 2)) fun x49 =>
zAm x8 x4 x12 x21 y24 y25 x49) else (bif (x8 == 11) then (Option.bind (idxA 32 (padA (0 : UInt8) x4 0 32) 3) fun x52 =>
Option.bind (qX [120] (Int.tmod (x52.toNat : Int) 2)) fun x54 =>
zAm x8 x4 x12 x21 y24 y25 x54) else (bif (x8 == 12) then (Option.bind (idxA 32 (padA (0 : UInt8) x4 0 32) 3) fun x57 =>
Option.bind (qX [120] (Int.tmod (x57.toNat : Int) 2)) fun x59 =>
zAm x8 x4 x12 x21 y24 y25 x59) else (zAm x8 x4 x12 x21 y24 y25 []))))
def zBs (x8 : Int) (x4 : (List UInt8)) (x12 : (List UInt8)) (x21 : (List UInt8)) (y24 : (List UInt8)) : Option zC :=
bif (x8 == 5) then (Option.bind (idxA 32 (padA (0 : UInt8) x4 0 32) 4) fun x62 =>
zBn x8 x4 x12 x21 y24 (wi (1 + (Int.tmod (x62.toNat : Int) 4)))) else (bif (x8 == 6) then (Option.bind (idxA 32 (padA (0 : UInt8) x4 0 32) 4) fun x65 =>
zBn x8 x4 x12 x21 y24 (wi (1 + (Int.tmod (x65.toNat : Int) 4)))) else (zBn x8 x4 x12 x21 y24 0))
def zBE (x8 : Int) (x4 : (List UInt8)) (x12 : (List UInt8)) (x21 : (List UInt8)) (y23 : (List UInt8)) : Option zC :=
bif (decide (x8 ≥ 5)) then (bif (decide (x8 ≤ 7)) then (Option.bind (idxA 32 (padA (0 : UInt8) x4 0 32) 7) fun x69 =>
Option.bind (qX [117] (Int.tmod (x69.toNat : Int) 4)) fun x71 =>
zBs x8 x4 x12 x21 x71) else (zBs x8 x4 x12 x21 y23)) else (zBs x8 x4 x12 x21 y23)
def zCS (x4 : (List UInt8)) (x21 : (List UInt8)) (x8 : Int) (x12 : (List UInt8)) (y73 : Bool) : Option zC :=
bif y73 then (Option.bind (idxA 32 (padA (0 : UInt8) x4 0 32) 7) fun x75 =>
bif (decide ((Int.tmod (x75.toNat : Int) 6) < 5)) then (Option.bind (qX [102] (Int.tmod (x75.toNat : Int) 6)) fun x78 =>
bif (!(x78 == x21)) then (Option.bind (qX [102] (Int.tmod (x75.toNat : Int) 6)) fun x81 =>
zBE x8 x4 x12 x21 x81) else (zBE x8 x4 x12 x21 [])) else (zBE x8 x4 x12 x21 [])) else (zBE x8 x4 x12 x21 [])
def zBB (p0 : (List UInt8)) (p1 : Int) : Option zC :=
bif (decide (p1 < 4)) then (Option.bind (qX [117] p1) fun x2 =>
some (zC.mk 1 x2 [] [] [] 0 0 [])) else (Option.bind (zDO p0 p1) fun x4 =>
Option.bind (idxA 32 (padA (0 : UInt8) x4 0 32) 0) fun x6 =>
Option.bind (idx [2, 8, 8, 8, 5, 5, 6, 7, 9, 9, 10, 12, 13, 11, 3, 4, 14] (Int.tmod (x6.toNat : Int) 17)) fun x8 =>
Option.bind (idxA 32 (padA (0 : UInt8) x4 0 32) 1) fun x10 =>
Option.bind (qX [117] (Int.tmod (x10.toNat : Int) 4)) fun x12 =>
bif (x8 == 14) then (Option.bind (idxA 32 (padA (0 : UInt8) x4 0 32) 7) fun x15 =>
Option.bind (qX [117] (Int.tmod (wi ((wi ((Int.tmod (x10.toNat : Int) 4) + 1)) + (Int.tmod (x15.toNat : Int) 3))) 4)) fun x17 =>
some (zC.mk x8 x12 [] [] x17 0 0 [])) else (Option.bind (idxA 32 (padA (0 : UInt8) x4 0 32) 2) fun x19 =>
Option.bind (qX [102] (Int.tmod (x19.toNat : Int) 5)) fun x21 =>
bif (x8 == 2) then (zCS x4 x21 x8 x12 true) else (zCS x4 x21 x8 x12 (x8 == 3))))
def zDB (y3 : (List zC)) : Option ((List zC) × Int) :=
some (y3, 0)
def zAr (p1 : Int) (p0 : (List UInt8)) : Nat → (List zC) → Int → Option ((List zC) × Int)
 | 0, _, _ => none
 | nl2 + 1, z4, z5 =>
  bif (decide (z5 < p1)) then (Option.bind (zAv p0 z5) fun x7 =>
  bif (x7.2 != 0) then (some ([], x7.2)) else (Option.bind (appI 112 z4 [x7.1]) fun x10 =>
  (zAr p1 p0 nl2) x10 (wi (z5 + 1)))) else (zDB z4)
def zDh (p0 : (List UInt8)) (p1 : Int) : Option ((List zC) × Int) :=
bif (decide (p1 < 0)) then (some ([], 2)) else (bif (decide (p1 > 1024)) then (some ([], 2)) else (zAr p1 p0 (Int.toNat p1 + 1) [] 0))
def zCa (y4 : (List zB)) : Option ((List zB) × Int) :=
some (y4, 0)
def zA2 (kl2 : (List zB) → Int → Option ((List zB) × Int)) (x8 : zC) (z6 : Int) (y13 : (List zB)) : Option ((List zB) × Int) :=
Option.bind (appI 248 y13 [(zB.mk 1 x8 0 (zQ.mk 0 [] 0 []) [] [] [])]) fun x14 =>
kl2 x14 (wi (z6 + 1))
def yS (x1 : ((List zC) × Int)) (p0 : (List UInt8)) : Nat → (List zB) → Int → Option ((List zB) × Int)
 | 0, _, _ => none
 | nl2 + 1, z5, z6 =>
  bif (decide (z6 < (x1.1.length : Int))) then (Option.bind (idx x1.1 z6) fun x8 =>
  Option.bind (zD1 p0 z6) fun x10 =>
  bif (x10.2 != 0) then (some ([], x10.2)) else (Option.bind (idxA 32 (padA (0 : UInt8) x10.1 0 32) 8) fun x16 =>
  bif (decide ((x16.toNat : Int) < 64)) then (Option.bind (idxA 32 (padA (0 : UInt8) x10.1 0 32) 9) fun x19 =>
  Option.bind (idxA 32 (padA (0 : UInt8) x10.1 0 32) 10) fun x21 =>
  Option.bind (cutI (padA (0 : UInt8) x10.1 0 32) 11 16) fun x23 =>
  Option.bind (appI 1 [] x23) fun x25 =>
  Option.bind (idxA 32 (padA (0 : UInt8) x10.1 0 32) 24) fun x27 =>
  Option.bind (cutI (padA (0 : UInt8) x10.1 0 32) 25 27) fun x29 =>
  Option.bind (appI 1 [] x29) fun x31 =>
  Option.bind (appI 248 z5 [(zB.mk 4 (zC.mk 0 [] [] [] [] 0 0 []) 0 (zQ.mk (wi ((x19.toNat : Int) + (x21.toNat : Int))) x25 (x27.toNat : Int) x31) [] [] [])]) fun x33 =>
  zA2 (yS x1 p0 nl2) x8 z6 x33) else (zA2 (yS x1 p0 nl2) x8 z6 z5))) else (zCa z5)
def zCp (p0 : (List UInt8)) (p1 : Int) : Option ((List zB) × Int) :=
Option.bind (zDh p0 p1) fun x1 =>
bif (x1.2 != 0) then (some ([], x1.2)) else (yS x1 p0 (x1.1.length + 1) [] 0)
end Go.Proofs.YtmgafkpkpmjieaaDoor
