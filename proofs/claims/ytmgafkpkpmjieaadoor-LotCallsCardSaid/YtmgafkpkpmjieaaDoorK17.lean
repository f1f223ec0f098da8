/-
  Texts joined: see the remark at the head of each part.
-/
import Derived.Test.YtmgafkpkpmjieaaDoorK16
import Derived.Test.YtmgafkpkpmjieaaDoorK15
import Derived.Test.YtmgafkpkpmjieaaDoorK04
import Derived.ProofKit
import Derived.Lib.SmallJoins
import Derived.Test.YtmgafkpkpmjieaaDoorK08
import Derived.OpenShut
set_option linter.unusedVariables false
set_option linter.unusedSimpArgs false
/-
 The plain law of the lots: all calls, all events; LotCalls.
-/
namespace Go.Proofs.YtmgafkpkpmjieaaDoor
open Go Go.RowKit
set_option linter.unusedVariables false
set_option linter.unusedSimpArgs false
set_option maxRecDepth 20000
attribute [local irreducible] lotN
def zFa : zD := zD.mk 0 [] [] [] [] 0 0 []
def zCq (s : List UInt8) (i : Nat) : zD := (zAI s (i : Int)).getD zFa
theorem zGW {s : List UInt8} (hs : s.length = 32) {i : Nat} (hi : i ≤ 1024) : yW s (i : Int) = some (zCq s i, 0) ∧ zAI s (i : Int) = some (zCq s i) ∧ (zCq s i).Data.length ≤ 16 := by
 have key : ∀ c, yW s (i : Int) = some (c, 0) → zAI s (i : Int) = some c → c.Data.length ≤ 16 → yW s (i : Int) = some (zCq s i, 0) ∧ zAI s (i : Int) = some (zCq s i) ∧ (zCq s i).Data.length ≤ 16 := fun c h1 h2 h3 => by
  have e : zCq s i = c := by unfold zCq; rw [h2]; rfl
  rw [e]
  exact ⟨h1, h2, h3⟩
 by_cases h4 : i < 4
 ·
  have hn : qD 117 (i : Int) = some [117, U8 (48 + ((U8 (i : Int)).toNat : Int))] := rfl
  refine key (zD.mk 1 [117, U8 (48 + ((U8 (i : Int)).toNat : Int))] [] [] [] 0 0 []) ?_ ?_ (by simp)
  ·
   unfold yW
   rw [n_lot hs hi, Option.bind_some, zFI rfl, cond_false, yA (by omega), cond_true, hn, Option.bind_some]
  ·
   unfold zAI
   rw [yA (by omega), cond_true, n_named 117 i (by omega), hn, Option.bind_some]
 ·
  obtain ⟨c, h1, h2, h3⟩ := n_chosen (zGt s i) s (i : Int) (by omega) (n_rlot hs hi)
  refine key c ?_ h2 h3
  unfold yW
  rw [n_lot hs hi, Option.bind_some, zFI rfl, cond_false, qM (by omega), cond_false]
  show Option.bind (zBZ (lotN s i)) _ = _
  rw [h1, Option.bind_some]
theorem zHF (s : List UInt8) {i : Int} (hi : i < 0 ∨ 1024 < i) : yW s i = some (zFa, 2) := by
 unfold yW
 rw [zFb s hi, Option.bind_some]
 rfl
theorem zGV {c : zD} (h : c.Data.length ≤ 16) : zAG c c = some true := by
 unfold zAG
 rw [ieq_t rfl, cond_true, beq_self_eq_true, cond_true, beq_self_eq_true, cond_true, beq_self_eq_true, cond_true, beq_self_eq_true, cond_true, ieq_t rfl, cond_true, ieq_t rfl, cond_true, zHJ _ _ (by omega), Option.bind_some, beq_self_eq_true]
theorem n_awake : zCe = some true := by
 unfold zCe
 have h := zGW (s := [7, (0 : UInt8), (0 : UInt8), (0 : UInt8), (0 : UInt8), (0 : UInt8), (0 : UInt8), (0 : UInt8), (0 : UInt8), (0 : UInt8), (0 : UInt8), (0 : UInt8), (0 : UInt8), (0 : UInt8), (0 : UInt8), (0 : UInt8), (0 : UInt8), (0 : UInt8), (0 : UInt8), (0 : UInt8), (0 : UInt8), (0 : UInt8), (0 : UInt8), (0 : UInt8), (0 : UInt8), (0 : UInt8), (0 : UInt8), (0 : UInt8), (0 : UInt8), (0 : UInt8), (0 : UInt8), (0 : UInt8)]) rfl (i := 0) (by omega)
 have e : zCq [7, (0 : UInt8), (0 : UInt8), (0 : UInt8), (0 : UInt8), (0 : UInt8), (0 : UInt8), (0 : UInt8), (0 : UInt8), (0 : UInt8), (0 : UInt8), (0 : UInt8), (0 : UInt8), (0 : UInt8), (0 : UInt8), (0 : UInt8), (0 : UInt8), (0 : UInt8), (0 : UInt8), (0 : UInt8), (0 : UInt8), (0 : UInt8), (0 : UInt8), (0 : UInt8), (0 : UInt8), (0 : UInt8), (0 : UInt8), (0 : UInt8), (0 : UInt8), (0 : UInt8), (0 : UInt8), (0 : UInt8)] 0 = zD.mk 1 [117, 48] [] [] [] 0 0 [] := rfl
 rw [e] at h
 have h1 := h.1
 rw [show ((0 : Nat) : Int) = (0 : Int) from rfl] at h1
 rw [h1, Option.bind_some]
 show Option.bind (zAG (zD.mk 1 [117, 48] [] [] [] 0 0 []) (zD.mk 1 [117, 48] [] [] [] 0 0 [])) _ = _
 rw [zGV (by decide), Option.bind_some]
def zAb (s : List UInt8) (n : Nat) : List zD := (List.range n).map (zCq s)
theorem zAj (s : List UInt8) (n : Nat) : (zAb s n).length = n := by unfold zAb; rw [List.length_map, List.length_range]
theorem callsN_s (s : List UInt8) (n : Nat) : zAb s (n + 1) = zAb s n ++ [zCq s n] := by unfold zAb; rw [List.range_succ, List.map_append]; rfl
theorem zEr (s : List UInt8) (n i : Nat) (h : i < n) : idx (zAb s n) (i : Int) = some (zCq s i) := by
 rw [zCw (by rw [zAj]; exact h)]
 unfold zAb
 rw [List.getElem_map, List.getElem_range]
theorem zFg {s : List UInt8} (hs : s.length = 32) {n : Nat} (hn : n ≤ 1024) : ∀ (k i : Nat), i + k = n → ∀ fuel, k < fuel → zAJ (n : Int) s fuel (zAb s i) (i : Int) = some (zAb s n, 0)
 | 0, i, hi, fuel + 1, hf => by
  unfold zAJ zCI
  rw [qM (by omega), cond_false, show i = n by omega]
 | k + 1, i, hi, fuel + 1, hf => by
  unfold zAJ
  rw [yA (by omega), cond_true, (zGW hs (i := i) (by omega)).1, Option.bind_some, zFI rfl, cond_false, yC (by rw [zAj]; simp only [List.length_cons, List.length_nil]; omega), Option.bind_some, ← callsN_s, zAN (by omega)]
  exact zFg hs hn k (i + 1) (by omega) fuel (by omega)
theorem n_calls {s : List UInt8} (hs : s.length = 32) {n : Nat} (hn : n ≤ 1024) : zAi s (n : Int) = some (zAb s n, 0) := by
 unfold zAi
 rw [qM (by omega), cond_false, qM (by omega), cond_false]
 exact zFg hs hn n 0 (by omega) _ (by omega)
theorem zET (s : List UInt8) {n : Int} (hn : n < 0 ∨ 1024 < n) : zAi s n = some ([], 2) := by
 unfold zAi
 by_cases h : n < 0
 · rw [yA h, cond_true]
 · rw [qM h, cond_false, yA (by omega), cond_true]
def outE (l : List UInt8) : zM := zM.mk 4 (zD.mk 0 [] [] [] [] 0 0 []) 0 (zAA.mk (((l.getD 9 0).toNat + (l.getD 10 0).toNat : Nat) : Int) ((l.drop 11).take 5) ((l.getD 24 0).toNat : Int) ((l.drop 25).take 2)) [] [] []
def callE (c : zD) : zM := zM.mk 1 c 0 (zAA.mk 0 [] 0 []) [] [] []
def evN (s : List UInt8) (i : Nat) : List zM := (if (lotN s i).getD 8 0 < 64 then [outE (lotN s i)] else []) ++ [callE (zCq s i)]
def evsN (s : List UInt8) (n : Nat) : List zM := (List.range n).flatMap (evN s)
theorem evsN_s (s : List UInt8) (n : Nat) : evsN s (n + 1) = evsN s n ++ evN s n := by unfold evsN; rw [List.range_succ, List.flatMap_append]; simp
theorem evN_len (s : List UInt8) (i : Nat) : (evN s i).length ≤ 2 := by
 unfold evN
 split <;> simp
theorem zGw (s : List UInt8) : ∀ n, (evsN s n).length ≤ 2 * n
 | 0 => by unfold evsN; simp
 | n + 1 => by
  have h1 := zGw s n
  have h2 := evN_len s n
  rw [evsN_s, List.length_append]
  omega
theorem cutA {l : List UInt8} (hl : l.length = 32) (a b : Nat) (h : a + b ≤ 32) : cutI (padA (0 : UInt8) l 0 32) (a : Int) ((a + b : Nat) : Int) = some ((l.drop a).take b) := by
 rw [zBv hl]
 unfold cutI
 rw [if_pos ⟨by omega, by omega, by omega⟩, Int.toNat_natCast, Int.toNat_natCast]
 refine congrArg some ?_
 rw [List.drop_take, show a + b - a = b by omega]
theorem zEm {s : List UInt8} (hs : s.length = 32) {n : Nat} (hn : n ≤ 1024) : ∀ (k i : Nat), i + k = n → ∀ fuel, k < fuel → qS (zAb s n, 0) s fuel (evsN s i) (i : Int) = some (evsN s n, 0)
 | 0, i, hi, fuel + 1, hf => by
  unfold qS zBs
  have hc := zAj s n
  rw [qM (by show ¬ (i : Int) < ((zAb s n).length : Int); omega), cond_false, show i = n by omega]
 | k + 1, i, hi, fuel + 1, hf => by
  unfold qS
  have hc := zAj s n
  have hl := zGt s i
  have hle := zGw s i
  rw [yA (by show (i : Int) < ((zAb s n).length : Int); omega), cond_true]
  show Option.bind (idx (zAb s n) (i : Int)) _ = _
  rw [zEr s n i (by omega), Option.bind_some, n_lot hs (by omega), Option.bind_some, zFI rfl, cond_false]
  show Option.bind (idxA 32 (padA (0 : UInt8) (lotN s i) 0 32) 8) _ = _
  have key : ∀ z : List zM, z.length ≤ 2 * i + 1 → z ++ [callE (zCq s i)] = evsN s (i + 1) → zAP (qS (zAb s n, 0) s fuel) (zCq s i) (i : Int) z = some (evsN s n, 0) := fun z hz e => by
   unfold zAP
   rw [yC (by simp only [List.length_cons, List.length_nil]; omega), Option.bind_some, show z ++ [zM.mk 1 (zCq s i) 0 (zAA.mk 0 [] 0 []) [] [] []] = evsN s (i + 1) from e, zAN (by omega)]
   exact zEm hs hn k (i + 1) (by omega) fuel (by omega)
  rw [show idxA 32 (padA (0 : UInt8) (lotN s i) 0 32) 8 = _ from g32 hl 8 (by omega), Option.bind_some]
  by_cases h8 : (lotN s i).getD 8 0 < 64
  ·
   have h8' : ((lotN s i).getD 8 0).toNat < 64 := h8
   have b9 := ((lotN s i).getD 9 0).toNat_lt
   have b10 := ((lotN s i).getD 10 0).toNat_lt
   rw [yA (by omega), cond_true, show idxA 32 (padA (0 : UInt8) (lotN s i) 0 32) 9 = _ from g32 hl 9 (by omega), Option.bind_some, show idxA 32 (padA (0 : UInt8) (lotN s i) 0 32) 10 = _ from g32 hl 10 (by omega), Option.bind_some, show cutI (padA (0 : UInt8) (lotN s i) 0 32) 11 16 = _ from cutA hl 11 5 (by omega), Option.bind_some, yC (by rw [List.length_take]; simp only [List.length_nil]; omega), Option.bind_some, show idxA 32 (padA (0 : UInt8) (lotN s i) 0 32) 24 = _ from g32 hl 24 (by omega), Option.bind_some, show cutI (padA (0 : UInt8) (lotN s i) 0 32) 25 27 = _ from cutA hl 25 2 (by omega), Option.bind_some, yC (by rw [List.length_take]; simp only [List.length_nil]; omega), Option.bind_some, ← Int.natCast_add, zBH (by omega), yC (by simp only [List.length_cons, List.length_nil]; omega), Option.bind_some]
   refine key _ (by rw [List.length_append]; simp only [List.length_cons, List.length_nil]; omega) ?_
   rw [evsN_s, List.append_assoc]
   unfold evN
   rw [if_pos h8]
   rfl
  ·
   have h8' : ¬ ((lotN s i).getD 8 0).toNat < 64 := h8
   rw [qM (by omega), cond_false]
   refine key _ (by omega) ?_
   rw [evsN_s]
   unfold evN
   rw [if_neg h8]
   rfl
theorem n_events {s : List UInt8} (hs : s.length = 32) {n : Nat} (hn : n ≤ 1024) : zAp s (n : Int) = some (evsN s n, 0) := by
 unfold zAp
 rw [n_calls hs hn, Option.bind_some, zFI rfl, cond_false]
 exact zEm hs hn n 0 (by omega) _ (by show n < (zAb s n).length + 1; rw [zAj]; omega)
theorem zF0 (s : List UInt8) {n : Int} (hn : n < 0 ∨ 1024 < n) : zAp s n = some ([], 2) := by
 unfold zAp
 rw [zET s hn, Option.bind_some]
 rfl
theorem n_lc5 {s : List UInt8} (hs : s.length = 32) {n : Nat} (hn : n ≤ 1024) : ∀ (k i : Nat), i + k = n → ∀ fuel, k < fuel → yF (zAb s n, 0) s (evsN s n, 0) (n : Int) fuel (i : Int) = some true
 | 0, i, hi, fuel + 1, hf => by
  unfold yF zBI
  have hc := zAj s n
  rw [qM (by show ¬ (i : Int) < ((zAb s n).length : Int); omega), cond_false, ieq_t rfl, cond_true, cond_true]
  show some (((zAb s n).length : Int) == (n : Int)) = _
  rw [ieq_t (by omega)]
 | k + 1, i, hi, fuel + 1, hf => by
  unfold yF
  have hc := zAj s n
  obtain ⟨_, h2, h3⟩ := zGW hs (i := i) (by omega)
  rw [yA (by show (i : Int) < ((zAb s n).length : Int); omega), cond_true]
  show Option.bind (idx (zAb s n) (i : Int)) _ = _
  rw [zEr s n i (by omega), Option.bind_some, h2, Option.bind_some, zGV h3, Option.bind_some, Bool.not_true, cond_false, zAN (by omega)]
  exact n_lc5 hs hn k (i + 1) (by omega) fuel (by omega)
theorem n_lc1 {s : List UInt8} (hs : s.length = 32) (n : Int) : yZ n s = some true := by
 unfold yZ
 by_cases h : n < 0 ∨ 1024 < n
 ·
  have h2 : yJ s n = some true := by
   unfold yJ
   rw [zET s h, Option.bind_some, zF0 s h, Option.bind_some]
   by_cases h0 : n < 0
   · rw [yA h0, cond_true]; rfl
   · rw [qM h0, cond_false, yA (by omega)]; rfl
  by_cases h40 : n > 40
  · rw [yA h40, cond_true, qM (by omega), cond_false, h2]
  · rw [qM h40, cond_false, h2]
 ·
  by_cases h40 : n > 40
  · rw [yA h40, cond_true, yA (by omega), cond_true]
  ·
   obtain ⟨m, rfl⟩ : ∃ m : Nat, n = (m : Int) := ⟨n.toNat, by omega⟩
   rw [qM h40, cond_false]
   unfold yJ
   rw [n_calls hs (by omega), Option.bind_some, n_events hs (by omega), Option.bind_some, qM (by omega), cond_false, qM (by omega)]
   unfold zAT
   rw [cond_false]
   exact n_lc5 hs (by omega) m 0 (by omega) _ (by show m < (zAb s m).length + 1; rw [zAj]; omega)
theorem zHN {s : List UInt8} (hs : s.length = 32) (i n : Int) : zBM s i n = some true := by
 have h1 := n_lc1 hs n
 unfold zBM
 rw [n_awake, Option.bind_some, Bool.not_true, cond_false]
 by_cases h : i < 0 ∨ 1024 < i
 ·
  rw [zFb s h, Option.bind_some, zHF s h, Option.bind_some]
  have h6 : yI ([], 2) (zFa, 2) n s i true = some true := by
   unfold yI
   rw [cond_true, zFI rfl, cond_false, cond_false, beq_self_eq_true, Bool.not_true, cond_false]
   show Option.bind (zAG zFa zFa) _ = _
   rw [zGV (by decide), Option.bind_some, Bool.not_true, cond_false, h1]
  by_cases h0 : i < 0
  · rw [yA h0, cond_true, h6]
  · rw [qM h0, cond_false, yA (by omega), h6]
 ·
  obtain ⟨m, rfl⟩ : ∃ m : Nat, i = (m : Int) := ⟨i.toNat, by omega⟩
  obtain ⟨c1, c2, c3⟩ := zGW hs (i := m) (by omega)
  rw [n_lot hs (by omega), Option.bind_some, c1, Option.bind_some, qM (by omega), cond_false, qM (by omega)]
  unfold yI
  rw [cond_false, zFI rfl, cond_false, cond_false, n_rlot hs (by omega), Option.bind_some, beq_self_eq_true, Bool.not_true, cond_false, c2, Option.bind_some]
  show Option.bind (zAG (zCq s m) (zCq s m)) _ = _
  rw [zGV c3, Option.bind_some, Bool.not_true, cond_false, h1]
end Go.Proofs.YtmgafkpkpmjieaaDoor

/-
 LotCalls' contract, told without a heap.
-/
namespace Go.Proofs.YtmgafkpkpmjieaaDoor
open Go Go.RowKit
theorem zEJ (p0 : List UInt8) (p1 p2 : Int) (r : Bool) (h : zBM p0 p1 p2 = some r) : FC Tryd.prog 3 [.t (.agg (ar cU8 (0 : UInt8) p0 0 32)), .t (.d (.lit (.int .i64 p1))), .t (.d (.lit (.int .i64 p2)))] [] (.t (.d (.lit (.bool r)))) :=
 zF9 (zEA p0 p1 p2 Hp.e r h) hpA_e rfl (Nat.le_of_ble_eq_true rfl)
end Go.Proofs.YtmgafkpkpmjieaaDoor

/-
 What came in: from the reading of the arguments to data.
-/
namespace Go.Proofs.YtmgafkpkpmjieaaDoor
open Go Go.RowKit Go.ChangeShapes Go.WideShapes Go.ChangeAt
set_option linter.unusedVariables false
set_option maxRecDepth 20000
def memW (w : World) : Mem := fun b p => w.cell? ⟨b, p, none⟩
theorem memW_sat (w : World) : ∀ b p u, memW w b p = some u → w.cell? ⟨b, p, none⟩ = some u := fun _ _ _ h => h
def OpT {H : Type} (enc : TypeId × Value → H) (w : World) {α : Type} (t : TypeId) (c : α → List D) (ok : α → Prop) : Prop :=
 ∀ (base : Nat) (spare : Nat → Bool) (held : Bool) (fuel : Nat) (cs : List Value) (x : DataW H × List MemPlace), DataW.trod enc Tryd.prog w base spare held fuel t cs = some x → ∃ v : α, RepL (memW w) (c v) cs ∧ ok v
def OpF {H : Type} (enc : TypeId × Value → H) (w : World) {α : Type} (m : Nat) (t : TypeId) (c : α → List D) (ok : α → Prop) : Prop :=
 ∀ (base : Nat) (spare : Nat → Bool) (held : Bool) (fuel : Nat) (cs : List Value) (x : DataW H × List MemPlace), fuel < m → DataW.trod enc Tryd.prog w base spare held fuel t cs = some x → ∃ v : α, RepL (memW w) (c v) cs ∧ ok v
theorem OpT.lt {H : Type} {enc : TypeId × Value → H} {w : World} {α : Type} {t : TypeId} {c : α → List D} {ok : α → Prop} (h : OpT enc w t c ok) (m : Nat) : OpF enc w m t c ok := fun b s l f cs x _ k => h b s l f cs x k
theorem OpT.of {H : Type} {enc : TypeId × Value → H} {w : World} {α : Type} {t : TypeId} {c : α → List D} {ok : α → Prop} (h : ∀ m, OpF enc w m t c ok) : OpT enc w t c ok := fun b s l f cs x k => h (f + 1) b s l f cs x (Nat.lt_succ_self f) k
def okAny {α : Type} (_ : α) : Prop := True
theorem repl_one {m : Mem} {d : D} {u : Value} (h : RepD m d u) : RepL m [d] [u] := by
 refine ⟨rfl, fun j e hj => ?_⟩
 match j, hj with
 | 0, hj => injection hj with hj; subst hj; exact ⟨u, rfl, h⟩
 | j + 1, hj => simp at hj
theorem repl_cons {m : Mem} {l1 l2 : List D} {cs : List Value} {o k : Nat} (h1 : RepL m l1 ((cs.drop o).take k)) (h2 : RepL m l2 (cs.drop (o + k))) : RepL m (l1 ++ l2) (cs.drop o) := by
 have e : cs.drop o = (cs.drop o).take k ++ cs.drop (o + k) := by rw [← List.drop_drop, List.take_append_drop]
 rw [e]
 refine ⟨by rw [List.length_append, List.length_append, h1.1, h2.1], fun j d hj => ?_⟩
 rcases Nat.lt_or_ge j l1.length with hl | hl
 ·
  rw [List.getElem?_append_left hl] at hj
  obtain ⟨u, a, b⟩ := h1.2 j d hj
  exact ⟨u, by rw [List.getElem?_append_left (by rw [h1.1]; exact hl)]; exact a, b⟩
 ·
  rw [List.getElem?_append_right hl] at hj
  obtain ⟨u, a, b⟩ := h2.2 _ d hj
  exact ⟨u, by rw [List.getElem?_append_right (by rw [h1.1]; exact hl), h1.1]; exact a, b⟩
theorem repl_nil {m : Mem} {cs : List Value} {n : Nat} (h : cs.length = n) : RepL m [] (cs.drop n) := by
 rw [List.drop_of_length_le (by omega)]
 exact ⟨rfl, fun j d hj => by simp at hj⟩
section
variable {H : Type} {enc : TypeId × Value → H} {w : World}
theorem op_u8 {t : TypeId} (ht : Tryd.prog.underlying t = some (.int .u8)) : OpT enc w t cU8 okAny := fun b s l f cs x h => by
 obtain ⟨n, rfl, _, hw⟩ := DataW.trod_int ht h
 refine ⟨UInt8.ofNat n.toNat, repl_one ?_, trivial⟩
 have hr : 0 ≤ n ∧ n ≤ 255 := by
  simp [Lit.wf, IntKind.min, IntKind.max, IntKind.signed, IntKind.bits] at hw
  omega
 have : ((UInt8.ofNat n.toNat).toNat : Int) = n := by
  simp
  omega
 rw [this]
 exact .lit _ rfl
theorem zFx {α : Type} (P : Nat → α → Prop) : ∀ n : Nat, (∀ i, i < n → ∃ x, P i x) → ∃ l : List α, l.length = n ∧ ∀ i (h : i < l.length), P i l[i]
 | 0, _ => ⟨[], rfl, fun i h => absurd h (by simp)⟩
 | n + 1, h => by
  obtain ⟨l, hl, hp⟩ := zFx P n fun i hi => h i (by omega)
  obtain ⟨x, hx⟩ := h n (by omega)
  refine ⟨l ++ [x], by simp [hl], fun i hi => ?_⟩
  by_cases h1 : i < l.length
  · rw [List.getElem_append_left h1]; exact hp i h1
  ·
   have : i = n := by simp at hi; omega
   subst this
   rw [List.getElem_append_right (by omega)]
   simpa [hl] using hx
end
theorem fc_law {f : FuncId} {args : List A} (h : FC Tryd.prog f args [] (.t (.d (.lit (.bool true))))) {w : World} {vals : Array Value} (hs : vals.size = args.length) (hsat : ∀ b p u, memW w b p = some u → w.cell? ⟨b, p, none⟩ = some u) (hr : ∀ s, RepA (memW w) w (fun _ => none) (argS args) s (argS args s) (vals.getD s undef)) (htbl : Mle TBL (memW w) := by intro b p u h; simp [TBL, TBLS] at h) :
    Calls Tryd.prog f vals w fun e w' => e = .returned (.bool true) ∧ Below w.heap.size w w' := by
  refine (h w (memW w) (fun _ => none) vals hsat htbl (fun _ _ h => by cases h) (fun _ _ _ h => by cases h) hs hr).mono ?_
  rintro e w' ⟨u, m', o', S', a', ρ, rfl, J, hu, _⟩
  have hS : Same (fun _ => False) w w' := J.same.weaken fun g h => h rfl
  have hu : RepD m' (.lit (.bool true)) u := hu
  cases hu
  exact ⟨rfl, hS.below⟩
end Go.Proofs.YtmgafkpkpmjieaaDoor

/-
 What came in: arrays of elements of one cell each.
-/
namespace Go.Proofs.YtmgafkpkpmjieaaDoor
open Go Go.RowKit Go.ChangeShapes Go.WideShapes Go.ChangeAt
set_option linter.unusedVariables false
set_option maxRecDepth 20000
def okArr {α : Type} (n : Nat) (ok : α → Prop) (l : List α) : Prop := l.length = n ∧ ∀ x ∈ l, ok x
theorem repl_ar {m : Mem} {α : Type} {c : α → List D} {z : α} {l : List α} {cs : List Value} (hl : l.length = cs.length) (h : ∀ i (hi : i < l.length), RepL m (c l[i]) ((cs.drop i).take 1)) : ∀ (k i : Nat), i + k = l.length → RepL m (ar c z l i k) (cs.drop i)
 | 0, i, hi => by
  rw [show i = cs.length by omega]
  exact repl_nil rfl
 | k + 1, i, hi => by
  have hlt : i < l.length := by omega
  have e : l.getD i z = l[i] := by rw [List.getD_eq_getElem?_getD, List.getElem?_eq_getElem hlt]; rfl
  have h2 := repl_ar (z := z) hl h k (i + 1) (by omega)
  have h1 := h i hlt
  rw [← e] at h1
  exact repl_cons (k := 1) h1 h2
theorem op_arr {H : Type} {enc : TypeId × Value → H} {w : World} {α : Type} {n : Nat} {t te : TypeId} {c : α → List D} {z : α} {ok : α → Prop} (ht : Tryd.prog.underlying t = some (.array n te)) (hk : Tryd.prog.cellsOf te = 1) (hc : Tryd.prog.cellsOf t = n) (he : OpT enc w te c ok) : OpT enc w t (fun l : List α => ar c z l 0 n) (okArr n ok) := by
 intro base spare held fuel cs x h
 obtain ⟨xs, m, rfl, _, hl, hxl, hfd⟩ := DataW.trod_array ht h
 obtain ⟨l, hll, hlp⟩ := zFx (fun i v => RepL (memW w) (c v) ((cs.drop i).take 1) ∧ ok v) n (fun i hi => by
  obtain ⟨y, hy⟩ : ∃ y, xs[i]? = some y := ⟨xs[i], List.getElem?_eq_getElem (by omega)⟩
  have f := (hfd i hi).trans hy
  rw [hk, Nat.mul_one] at f
  exact he _ _ _ _ _ _ f)
 have hcl : l.length = cs.length := by rw [hll, hl, hc]
 have := repl_ar (z := z) hcl (fun i hi => (hlp i hi).1) n 0 (by omega)
 exact ⟨l, this, hll, fun x hx => by
  obtain ⟨i, hi, rfl⟩ := List.getElem_of_mem hx
  exact (hlp i hi).2⟩
theorem zHE {P : Program} {w : World} {r : Reach} {base : Nat} {t e : TypeId} {n : Nat} {v : Value} (ht : P.underlying t = some (.array n e)) (h : Value.okWide P w r base t v) : ∃ cs, v = .agg cs := by
 simp only [Value.okWide, ht] at h
 obtain ⟨cs, h1, _⟩ := h
 exact ⟨cs, h1⟩
end Go.Proofs.YtmgafkpkpmjieaaDoor
