/-
  Texts joined: see the remark at the head of each part.
-/
import Derived.WalkKit
import Derived.OpenShut
import Derived.ProofKit
import Derived.Deep.QuietTactic
import Derived.BigQuiet
import Derived.Lib.Hide
import Derived.WalkSmall
import Derived.Laws.OwnMore
import Derived.Deep.Draws
import Derived.WalkSpells
import Derived.WalkLawsBesides
import Derived.Deep.RegionHeld3
import Derived.Deep.Cut
import Derived.StillTailTactics
import Derived.Deep.CutRange
import Derived.Deep.CutBlock
import Derived.Deep.DeepFit
import Derived.Laws.BitsAllLaws
import Derived.Maps.AppendAt
import Derived.Deep.MidRow
set_option linter.unusedVariables false
set_option linter.unusedSimpArgs false
/-
 Words for memory that this seat's contracts use: a row of cells behind an optional address, bytes, how they are kept from world to world.
-/
namespace Go.Proofs.Ytjomnccladjpgaa
open Go.RowKit
def Row (w : World) (A : Option Addr) (xs : List Value) : Prop := ∀ j u, xs[j]? = some u → ∃ ad, A = some ad ∧ w.cell? (ad.add j) = some u
theorem block_add (a : Addr) (n : Nat) : (a.add n).block = a.block := by unfold Addr.add; split <;> rfl
theorem add_add (a : Addr) (i j : Nat) : (a.add i).add j = a.add (i + j) := by
 unfold Addr.add
 by_cases hi : i = 0 <;> by_cases hj : j = 0 <;> simp [hi, hj, Nat.add_assoc]
theorem add_zero (a : Addr) : a.add 0 = a := by simp [Addr.add]
section
variable {w w' : World} {A : Option Addr} {xs : List Value}
theorem Row.nil (w : World) (A : Option Addr) : Row w A [] := by intro j u h; simp at h
theorem Row.keep (h : Row w A xs) (hk : ∀ p : Addr, p.block < w.heap.size → w'.cell? p = w.cell? p) : Row w' A xs := by
 intro j u hu
 obtain ⟨ad, e, hc⟩ := h j u hu
 exact ⟨ad, e, (hk _ (World.block_lt_of_cell? w _ hc)).trans hc⟩
theorem Row.below (h : Row w A xs) (hb : Below w.heap.size w w') : Row w' A xs := h.keep fun _ hp => hb.cell hp
theorem Row.drew (h : Row w A xs) : Row w.drew A xs := h
theorem Row.alloc (h : Row w A xs) (o : Obj) : Row (w.alloc o) A xs := h.keep fun p hp => World.cell?_alloc_lt w o p hp
theorem Row.at_ (h : Row w A xs) {j : Nat} (hj : j < xs.length) : ∃ ad, A = some ad ∧ w.cell? (ad.add j) = some xs[j] := h j _ (List.getElem?_eq_getElem hj)
theorem Row.take (h : Row w A xs) (k : Nat) : Row w A (xs.take k) := by
 intro j u hu
 rw [List.getElem?_take] at hu
 split at hu
 · exact h j u hu
 · cases hu
theorem Row.cut (h : Row w A xs) {k cap : Nat} (hc : xs.length ≤ cap) : Row w (if cap = k then A else A.map (·.add k)) (xs.drop k) := by
 intro j u hu
 rw [List.getElem?_drop] at hu
 obtain ⟨ad, rfl, hcell⟩ := h _ u hu
 have hlt : k + j < xs.length := by
  rcases Nat.lt_or_ge (k + j) xs.length with g | g
  · exact g
  · rw [List.getElem?_eq_none g] at hu; cases hu
 rw [if_neg (by omega)]
 exact ⟨_, rfl, by rw [add_add]; exact hcell⟩
theorem Row.of_own {base : Nat} {e : TypeId} {c n sz : Nat} (h : w.ownsRow base e sz (.slice A n c) n xs) : Row w A xs := by
 intro j u hu
 rcases A with _ | ad
 ·
  rcases h.2 with ⟨_, h0⟩ | ⟨g, cap, cur, hv, _⟩
  ·
   subst h0
   have := h.1
   simp at this
   subst this
   simp at hu
  · injection hv with hv; cases hv
 ·
  rcases h.2 with ⟨hv, _⟩ | ⟨g, cap, cur, hv, _⟩
  · injection hv with hv; cases hv
  ·
   injection hv with hv
   injection hv with hv
   subst hv
   exact ⟨_, rfl, h.cells (g := g) rfl j u hu⟩
end
def cb8 (b : UInt8) : Value := .int .u8 (b.toNat : Int)
def u8s (bs : List UInt8) : List Value := bs.map cb8
theorem zEu (bs : List UInt8) : (u8s bs).length = bs.length := by simp [u8s]
def Byt (w : World) (A : Option Addr) (bs : List UInt8) : Prop := Row w A (u8s bs)
section
variable {w w' : World} {A : Option Addr} {bs : List UInt8}
theorem Byt.nil (w : World) (A : Option Addr) : Byt w A [] := Row.nil w A
theorem Byt.below (h : Byt w A bs) (hb : Below w.heap.size w w') : Byt w' A bs := Row.below h hb
theorem Byt.drew (h : Byt w A bs) : Byt w.drew A bs := h
theorem Byt.alloc (h : Byt w A bs) (o : Obj) : Byt (w.alloc o) A bs := Row.alloc h o
theorem Byt.at_ (h : Byt w A bs) {j : Nat} (hj : j < bs.length) : ∃ ad, A = some ad ∧ w.cell? (ad.add j) = some (.int .u8 (bs[j].toNat : Int)) := by
 obtain ⟨ad, e, hc⟩ := Row.at_ h (j := j) (by simpa [u8s] using hj)
 exact ⟨ad, e, by simpa [cb8, u8s] using hc⟩
theorem Byt.take (h : Byt w A bs) (k : Nat) : Byt w A (bs.take k) := by
 have := Row.take h k
 unfold u8s at this
 rwa [← List.map_take] at this
theorem Byt.cut (h : Byt w A bs) {k cap : Nat} (hc : bs.length ≤ cap) : Byt w (if cap = k then A else A.map (·.add k)) (bs.drop k) := by
 have := Row.cut h (k := k) (cap := cap) (by simpa [u8s] using hc)
 unfold u8s at this
 rwa [← List.map_drop] at this
end
end Go.Proofs.Ytjomnccladjpgaa

/-
 append onto a slice that the call itself owns, whatever is appended (nil, empty, cut): one law at a plain operation; what is owned stays owned.
-/
namespace Go.Proofs.Ytjomnccladjpgaa
open Go.RowKit
structure zEY (P : Program) (t e : TypeId) (sz nb : Nat) : Prop where
 under : P.underlying t = some (.slice e)
 info : ∃ i z, P.info? e = some i ∧ i.zero = some z ∧ i.size = sz ∧ i.bytes = nb ∧ z.cells.size = sz
 pos : 0 < sz
 posb : 0 < nb
theorem zEY.mk' {P : Program} {t e : TypeId} {z : Value} {sz nb : Nat} (hu : P.underlying t = some (.slice e)) (h : (P.info? e).map (fun i => (i.zero, i.size, i.bytes)) = some (some z, sz, nb))
  (hz : z.cells.size = sz) (h1 : 0 < sz) (h2 : 0 < nb) : zEY P t e sz nb := by
 obtain ⟨i, hi, a, b, c⟩ := info_parts h
 exact ⟨hu, ⟨i, z, hi, a, b, c, hz⟩, h1, h2⟩
def Own (w : World) (B : Nat) (e : TypeId) (sz : Nat) (A : Option Addr) (n c : Nat) (xs : List Value) : Prop := w.ownsRow B e sz (.slice A n c) n xs
def blk (A : Option Addr) : Option Nat := A.map (·.block)
theorem qR (A : Option Addr) (n c : Nat) : Value.ownBlock (.slice A n c) = blk A := by cases A <;> rfl
section
variable {w w' : World} {B : Nat} {e : TypeId} {sz n c : Nat} {A : Option Addr} {xs : List Value}
theorem Own.nil (w : World) (B : Nat) (e : TypeId) (sz : Nat) : Own w B e sz none 0 0 [] := World.ownsRow_nil w B e sz
theorem Own.lit (w : World) (cs : Array Value) (e : TypeId) (sz n : Nat) (hb : B ≤ w.heap.size) (hm : n ≤ maxLen) (hs : cs.size = n * sz) : Own (w.alloc (.cells cs e)) B e sz (some ⟨w.heap.size, 0, none⟩) n n cs.toList :=
 World.ownsRow_lit w cs n hb hm hs
theorem Own.litAt {w : World} {g : Nat} (cs : Array Value) (e : TypeId) (sz n : Nat) (xs : List Value) (hg : g = w.heap.size) (hb : B ≤ w.heap.size) (hm : n ≤ maxLen) (hs : cs.size = n * sz) (hx : cs.toList = xs) : Own (w.alloc (.cells cs e)) B e sz (some ⟨g, 0, none⟩) n n xs := by
 subst hg hx
 exact Own.lit w cs e sz n hb hm hs
theorem Own.row (h : Own w B e sz A n c xs) : Row w A xs := Row.of_own h
theorem Own.len (h : Own w B e sz A n c xs) : xs.length = n * sz := h.1
theorem Own.cap (h : Own w B e sz A n c xs) : n ≤ c := by
 rcases h.2 with ⟨hv, h0⟩ | ⟨g, cap, cur, hv, _, _, hn, _⟩
 · omega
 · injection hv with _ _ hc; omega
theorem Own.capMax (h : Own w B e sz A n c xs) : c ≤ maxLen := by
 rcases h.2 with ⟨hv, h0⟩ | ⟨g, cap, cur, hv, _, _, _, hm, _⟩
 · injection hv with _ _ hc; rw [hc]; exact Nat.zero_le _
 · injection hv with _ _ hc; rw [hc]; exact hm
theorem Own.drew (h : Own w B e sz A n c xs) : Own w.drew B e sz A n c xs := h
theorem Own.alloc (h : Own w B e sz A n c xs) (o : Obj) : Own (w.alloc o) B e sz A n c xs := World.ownsRow.alloc h o
theorem Own.kept (h : Own w B e sz A n c xs) {r : Option Nat} (hg : w.grownBy w' r) (hne : blk A = none ∨ blk A ≠ r) : Own w' B e sz A n c xs :=
 World.ownsRow.kept h hg (by rw [qR]; exact hne)
theorem Own.lt (h : Own w B e sz A n c xs) : ∀ k, blk A = some k → B ≤ k ∧ k < w.heap.size := fun k hk => World.ownsRow.lt h k (by rw [qR]; exact hk)
theorem Own.below (h : Own w B e sz A n c xs) (hb : Below w.heap.size w w') : Own w' B e sz A n c xs :=
 h.kept (r := none) ⟨hb.os, hb.tape, hb.output, hb.size, fun k hk _ => hb.block k hk⟩ (by cases blk A <;> simp)
theorem Own.belowOf (h : Own w B e sz A n c xs) {B0 : Nat} {w0 : World} (hb : Below B0 w0 w) (hg : w.grownBy w' (blk A)) (h0 : B0 ≤ w.heap.size) (h1 : B0 ≤ B) : Below B0 w0 w' :=
 hb.grown hg h0 (fun k hk => Nat.le_trans h1 (h.lt k hk).1)
theorem Row.grown (h : Row w A xs) {r : Option Nat} (hg : w.grownBy w' r) (hne : ∀ ad, A = Option.some ad → Option.some ad.block ≠ r) : Row w' A xs := by
 intro j u hu
 obtain ⟨ad, e, hc⟩ := h j u hu
 refine ⟨ad, e, hg.cell hc ?_⟩
 rw [block_add]
 exact hne ad e
theorem Own.addr (h : Own w B e sz A n c xs) (hn : 0 < n) : ∃ g, A = some ⟨g, 0, none⟩ ∧ B ≤ g ∧ g < w.heap.size := by
 rcases h.2 with ⟨_, h0⟩ | ⟨g, cap, cur, hv, hb, hg, _⟩
 · omega
 ·
  injection hv with hA
  exact ⟨g, hA, hb, (Array.getElem?_eq_some_iff.1 hg).1⟩
end
section
variable {P : Program} (w : World)
theorem run_app {t e : TypeId} {sz nb : Nat} (E : zEY P t e sz nb) (ty : TypeId) (B : Nat) (A : Option Addr) (n c : Nat) (xs : List Value) (hown : Own w B e sz A n c xs)
  (A' : Option Addr) (m c' : Nat) (news : List Value) (hl : news.length = m * sz) (hnews : Row w A' news) (h1 : ∀ u ∈ news, u.oneCell' = true) (hb : (n + m) * nb ≤ 140737488355328) (hB : B ≤ w.heap.size) :
  ∃ A2 c2 w', (Builtin.append_ #[t, t] ty #[.slice A n c, .slice A' m c']).run P w = .ok (.slice A2 (n + m) c2) w' ∧ Own w' B e sz A2 (n + m) c2 (xs ++ news) ∧ w.grownBy w' (blk A) ∧ (blk A2 = blk A ∨ blk A2 = some w.heap.size) := by
 obtain ⟨i, z, hi, hz, hsize, hby, hzs⟩ := E.info
 have h63 : n + m ≤ maxLen := by
  have := Nat.le_mul_of_pos_right (n + m) E.posb
  unfold maxLen; omega
 cases A' with
 | none =>
  have hn : news = [] := by
   cases news with
   | nil => rfl
   | cons u r =>
    obtain ⟨ad, h, _⟩ := hnews 0 u rfl
    cases h
  subst hn
  have hm : m = 0 := by
   rcases Nat.eq_zero_or_pos m with h | h
   · exact h
   ·
    have h2 := Nat.mul_pos h E.pos
    rw [← hl] at h2
    exact absurd h2 (by simp)
  subst hm
  refine ⟨A, c, w, ?_, by simpa using hown, World.grownBy.refl w _, .inl rfl⟩
  rcases hown.2 with ⟨hv, _⟩ | ⟨g, cap, cur, hv, _, _, hnc, _⟩
  ·
   injection hv with h1 h2 h3
   subst h1 h2 h3
   simp [Builtin.append_, run_underlying E.under, sizeOf, typeInfo, hi, Builtin.lenOf, Builtin.firstCells]
  ·
   injection hv with h1 h2 h3
   subst h1 h3
   simp [Builtin.append_, run_underlying E.under, sizeOf, typeInfo, hi, Builtin.lenOf, Builtin.firstCells, hnc, storeCells]
 | some ad =>
  have hcells : ∀ j u, news[j]? = some u → w.cell? (ad.add j) = some u := by
   intro j u hu
   obtain ⟨ad', h, hc⟩ := hnews j u hu
   injection h with h
   subst h
   exact hc
  obtain ⟨v', w', hrun, h2, h3, _, h5⟩ := run_append_own_at (P := P) w B t ty e i z sz nb E.under hi hz hsize hby hzs E.pos _ n xs hown ad m c' news hl hcells h1 h63 hb hB
  have hform : ∃ A2 c2, v' = .slice A2 (n + m) c2 := by
   rcases h2.2 with ⟨hv, h0⟩ | ⟨g, cap, cur, hv, _⟩
   · exact ⟨Option.none, 0, by rw [hv, h0]⟩
   · exact ⟨_, _, hv⟩
  obtain ⟨A2, c2, rfl⟩ := hform
  rw [qR] at h3
  rw [qR, qR] at h5
  exact ⟨A2, c2, w', hrun, h2, h3, h5⟩
theorem wp_app {o : Oper} {a : Act} {K : Act → World → Prop} {Q : Exit → Act → World → Prop} {t e : TypeId} {sz nb : Nat} (E : zEY P t e sz nb) (s x : Operand)
  (ho : o.op = .call { callee := .builtin .append, args := #[s, x], argTypes := #[t, t] })
  (B : Nat) (A : Option Addr) (n c : Nat) (xs : List Value) (hs : a.eval s = .slice A n c) (hown : Own w B e sz A n c xs)
  (A' : Option Addr) (m c' : Nat) (news : List Value) (hx : a.eval x = .slice A' m c') (hl : news.length = m * sz) (hnews : Row w A' news) (h1 : ∀ u ∈ news, u.oneCell' = true)
  (hb : (n + m) * nb ≤ 140737488355328) (hB : B ≤ w.heap.size)
  (h : ∀ A2 c2 w', Own w' B e sz A2 (n + m) c2 (xs ++ news) → w.grownBy w' (blk A) → (blk A2 = blk A ∨ blk A2 = some w.heap.size) → K (a.put o.dst (.slice A2 (n + m) c2)) w') : o.wp P a w K Q := by
 obtain ⟨A2, c2, w', hrun, h2, h3, h4⟩ := run_app (P := P) w E o.type B A n c xs hown A' m c' news hl hnews h1 hb hB
 unfold Oper.wp execOp
 simp only [ho, resolve, invoke, builtin, Sem.run_bind, Sem.run_pure, Result.andThen_ok, List.map_toArray, List.map_cons, List.map_nil, hs, hx, hrun]
 exact h _ _ _ h2 h3 h4
theorem zJ8 {ops : Array Oper} {rest : List Oper} {o : Oper} {a : Act} {Q : Exit → Act → World → Prop} {t e : TypeId} {sz nb : Nat} (E : zEY P t e sz nb) (hgd : o.guard = none) (s x : Operand)
  (ho : o.op = .call { callee := .builtin .append, args := #[s, x], argTypes := #[t, t] })
  (B : Nat) (A : Option Addr) (n c : Nat) (xs : List Value) (hs : a.eval s = .slice A n c) (hown : Own w B e sz A n c xs)
  (A' : Option Addr) (m c' : Nat) (news : List Value) (hx : a.eval x = .slice A' m c') (hl : news.length = m * sz) (hnews : Row w A' news) (h1 : ∀ u ∈ news, u.oneCell' = true)
  (hb : (n + m) * nb ≤ 140737488355328) (hB : B ≤ w.heap.size)
  (h : ∀ A2 c2 w', Own w' B e sz A2 (n + m) c2 (xs ++ news) → w.grownBy w' (blk A) → (blk A2 = blk A ∨ blk A2 = some w.heap.size) → wpList P ops Q rest (a.put o.dst (.slice A2 (n + m) c2)) w') : wpList P ops Q (o :: rest) a w :=
 wpList_plain hgd fun _ hK => wp_app w E s x ho B A n c xs hs hown A' m c' news hx hl hnews h1 hb hB fun A2 c2 w' h2 h3 h4 => hK _ _ (h A2 c2 w' h2 h3 h4)
end
theorem u8_ofNat (q : Nat) : Value.int .u8 ((q : Int) % 256) = cb8 (UInt8.ofNat (q % 256)) := by
 unfold cb8
 rw [UInt8.toNat_ofNat']
 congr 1
 omega
theorem u8_one (bs : List UInt8) : ∀ u ∈ u8s bs, u.oneCell' = true := by
 intro u hu
 unfold u8s at hu
 obtain ⟨b, _, rfl⟩ := List.mem_map.1 hu
 rfl
theorem zJv {P : Program} (w : World) {ops : Array Oper} {rest : List Oper} {o : Oper} {a : Act} {Q : Exit → Act → World → Prop} {t e : TypeId} (h1 : P.underlying t = some (.slice e))
  (hz : (P.info? e).map (fun i => (i.zero, i.size, i.bytes)) = some (some (.int .u8 0), 1, 1)) (hg : o.guard = none) (l c : Operand) (hop : o.op = Op.makeSlice t l c)
  (B : Nat) (kl kc : IntKind) (L C : Int) (n : Nat) (hl : a.eval l = .int kl L) (hc : a.eval c = .int kc C) (hL : L = (n : Int)) (hC : C = (n : Int)) (b : n ≤ 281474976710656) (hB : B ≤ w.heap.size)
  (hK : ∀ w', Own w' B e 1 (some ⟨w.heap.size, 0, none⟩) n n (u8s (List.replicate n 0)) → w.grownBy w' none → wpList P ops Q rest (a.put o.dst (.slice (some ⟨w.heap.size, 0, none⟩) n n)) w') :
  wpList P ops Q (o :: rest) a w := by
 obtain ⟨i, hi, h2, h3, h4⟩ := info_parts hz
 refine wpList_make_full w hg l c t hop B e i (.int .u8 0) 1 h1 hi h2 h3 kl kc L C n hl hc hL hC (by rw [h4]; omega) (by unfold maxLen; omega) hB fun w' hO hw => hK w' ?_ hw
 have he : (madeCells (Value.int .u8 0).cells (n * 1)).toList = u8s (List.replicate n 0) := by
  unfold madeCells u8s
  apply List.ext_getElem
  · simp
  ·
   intro j h1 h2
   simp [Value.cells, cb8, Nat.mod_one]
 rw [he] at hO
 exact hO
section
variable {w : World} {B : Nat} {e : TypeId} {g n c : Nat}
theorem Own.byteAt {bs : List UInt8} (h : Own w B e 1 (some ⟨g, 0, none⟩) n c (u8s bs)) {j : Nat} (hj : j < bs.length) : w.cell? ⟨g, j, none⟩ = some (.int .u8 (bs[j].toNat : Int)) ∧ w.frozen? ⟨g, j, none⟩ = false := by
 have hl := h.len
 rw [zEu] at hl
 refine ⟨?_, World.ownsRow.frozenAt h j⟩
 rw [World.ownsRow.cellAt h j (by omega)]
 simp [u8s, cb8, hj]
theorem Own.setByte {bs : List UInt8} (h : Own w B e 1 (some ⟨g, 0, none⟩) n c (u8s bs)) (j : Nat) (b : UInt8) :
  Own (w.setCell ⟨g, j, none⟩ (cb8 b)) B e 1 (some ⟨g, 0, none⟩) n c (u8s (bs.set j b)) := by
 have := (World.ownsRow.stored h j (cb8 b)).1
 unfold u8s at this ⊢
 rw [List.map_set]
 exact this
end
end Go.Proofs.Ytjomnccladjpgaa

/-
 The program's tables that a law's row lists: block, cells. None here.
-/
namespace Go.Proofs.Ytjomnccladjpgaa
open Go
def TBLS : List (Nat × List Value) := []
end Go.Proofs.Ytjomnccladjpgaa

/-
 Data without memory: what a slot of a frame holds, told without addresses; and how memory bears it.
-/
namespace Go.Proofs.Ytjomnccladjpgaa
open Go Go.RowKit
inductive D where
 | lit (v : Value)
 | seq (k : Nat) (l : List (List D))
 | clo (f : FuncId) (caps : List (List D))
instance : Inhabited D := ⟨.lit undef⟩
abbrev Mem := Nat → Nat → Option Value
inductive RepD (m : Mem) : D → Value → Prop
 | lit (u : Value) (h : u.oneCell' = true) : RepD m (.lit u) u
 | seq (k : Nat) (l : List (List D)) (A : Option Addr) (cap g o : Nat) (f : Nat → Nat → Value)
   (hcap : l.length ≤ cap) (hmax : cap ≤ maxLen) (hA : l ≠ [] → A = some ⟨g, o, none⟩)
   (hw : ∀ (i : Nat) (r : List D), l[i]? = some r → r.length = k)
   (hm : ∀ (i : Nat) (r : List D) (j : Nat) (d : D), l[i]? = some r → r[j]? = some d → m g (o + i * k + j) = some (f i j))
   (hr : ∀ (i : Nat) (r : List D) (j : Nat) (d : D), l[i]? = some r → r[j]? = some d → RepD m d (f i j)) : RepD m (.seq k l) (.slice A l.length cap)
 | clo (fn : FuncId) (l : List (List D)) (ptrs : Array Value) (g p : Nat → Nat) (f : Nat → Nat → Value) (hsz : ptrs.size = l.length)
   (hp : ∀ (i : Nat) (r : List D), l[i]? = some r → ptrs[i]? = some (.pointer (some ⟨g i, p i, none⟩)))
   (hm : ∀ (i : Nat) (r : List D) (j : Nat) (d : D), l[i]? = some r → r[j]? = some d → m (g i) (p i + j) = some (f i j))
   (hr : ∀ (i : Nat) (r : List D) (j : Nat) (d : D), l[i]? = some r → r[j]? = some d → RepD m d (f i j)) : RepD m (.clo fn l) (.func (.func fn) #[] ptrs)
def TBL : Mem := fun b p => match TBLS.find? (fun x => x.1 == b) with
 | some x => x.2[p]?
 | none => none
def Mle (m m' : Mem) : Prop := ∀ b p u, m b p = some u → m' b p = some u
theorem Mle.refl (m : Mem) : Mle m m := fun _ _ _ h => h
theorem Mle.trans {a b c : Mem} (h : Mle a b) (k : Mle b c) : Mle a c := fun _ _ _ x => k _ _ _ (h _ _ _ x)
theorem RepD.mono {m m' : Mem} (hm : Mle m m') {d : D} {v : Value} (h : RepD m d v) : RepD m' d v := by
 induction h with
 | lit u h => exact .lit u h
 | seq k l A cap g o f h1 h2 h3 h4 h5 _ ih => exact .seq k l A cap g o f h1 h2 h3 h4 (fun i r j d a b => hm _ _ _ (h5 i r j d a b)) ih
 | clo fn l ptrs g p f h1 h2 h3 _ ih => exact .clo fn l ptrs g p f h1 h2 (fun i r j d a b => hm _ _ _ (h3 i r j d a b)) ih
theorem RepD.one {m : Mem} {d : D} {v : Value} (h : RepD m d v) : v.oneCell' = true := by
 cases h with
 | lit u h => exact h
 | seq => rfl
 | clo => rfl
theorem RepD.cells {m : Mem} {d : D} {v : Value} (h : RepD m d v) : v.cells = #[v] := by
 have := h.one
 cases v <;> first | rfl | (cases this)
def RepL (m : Mem) (l : List D) (vs : List Value) : Prop := vs.length = l.length ∧ ∀ (j : Nat) (d : D), l[j]? = some d → ∃ u, vs[j]? = some u ∧ RepD m d u
theorem RepL.mono {m m' : Mem} (hm : Mle m m') {l : List D} {vs : List Value} (h : RepL m l vs) : RepL m' l vs :=
 ⟨h.1, fun j d hj => let ⟨u, a, b⟩ := h.2 j d hj; ⟨u, a, b.mono hm⟩⟩
def OB : Nat := 1099511627776
inductive T where
 | d (x : D)
 | agg (l : List D)
 | own (E k : Nat) (l : List (List D))
 | ptr (j off : Nat)
 | view (j off E k n : Nat)
 | hpt (c off : Nat)
 | hvw (c off E k n : Nat)
 | mpt (j : Nat)
 | xs (E k : Nat) (l : List (List D)) (r : Option Value)
 | any
instance : Inhabited T := ⟨.d default⟩
inductive CkE where
 | live (c : Nat)
 | fz (l : List D)
inductive A where
 | t (x : T)
 | tup (l : List T)
 | imm (l : List D)
 | box (l : List T)
 | ref (s off : Nat)
 | free
 | ag (l : List T)
 | hp (f : Nat → A)
 | mp (l : List (T × T))
 | lst (l : List T)
 | fr (E k : Nat)
 | cl (f : FuncId) (caps : List (List T))
 | ck (f : FuncId) (cs : List CkE)
 | imt (l : List T)
 | rcd (b : Nat) (u : Obj) (mE : Mem) (oE : Nat → Option (Nat × Nat))
 | any
instance : Inhabited A := ⟨.any⟩
abbrev OwnM := Nat → Option (Nat × Nat)
def OFB : Nat := 1099511627776
def ownE (w : World) (E g q c : Nat) (cur : Array Value) : Prop := ∃ e, w.heap[g]? = some (.cells cur e (0, 0)) ∧ (E = OFB ∨ (e = E ∧ q = 0 ∧ cur.size = c))
def zDb (w : World) (e size : Nat) (v : Value) (n : Nat) (xs : List Value) : Prop :=
 xs.length = n * size ∧ ((v = .slice none 0 0 ∧ n = 0) ∨ ∃ g q cap cur, v = .slice (some ⟨g, q, none⟩) n cap ∧ ownE w e g q (cap * size) cur ∧ n ≤ cap ∧ cap ≤ maxLen ∧ (cur.size = q + cap * size ∨ cap = 0 ∧ q ≤ cur.size) ∧ (cur.toList.drop q).take (n * size) = xs)
theorem zE0 {w : World} {B e size n : Nat} {v : Value} {xs : List Value} (h : w.ownsRow B e size v n xs) : zDb w e size v n xs :=
 ⟨h.1, h.2.imp id fun ⟨g, cap, cur, h1, _, h2, h3, h4, h5, h6⟩ => ⟨g, 0, cap, cur, h1, ⟨_, h2, .inr ⟨rfl, rfl, h5⟩⟩, h3, h4, .inl (by rw [Nat.zero_add]; exact h5), h6⟩⟩
def offA : Option Addr → Nat
 | some a => a.off
 | none => 0
def zJ0 (m : Mem) (w : World) (o : OwnM) (loc : Nat × Nat) (E k : Nat) (l : List (List D)) (v : Value) : Prop :=
 ∃ (A' : Option Addr) (cap : Nat) (xs : List Value), v = .slice A' l.length cap ∧ zDb w E k v l.length xs ∧ (∀ g, blk A' = some g → o g = some loc ∧ ∀ p, p < cap * k → m g (offA A' + p) = xs[p]?) ∧
  (∀ (i : Nat) (r : List D), l[i]? = some r → r.length = k) ∧ ∀ (i : Nat) (r : List D) (j : Nat) (d : D), l[i]? = some r → r[j]? = some d → ∃ u, xs[i * k + j]? = some u ∧ RepD m d u
def XsAt (m : Mem) (w : World) (o : OwnM) (loc : Nat × Nat) (E k : Nat) (l : List (List D)) (r : Option Value) (v : Value) : Prop :=
 ∃ (A' : Option Addr) (cap : Nat) (xs : List Value), v = .slice A' l.length cap ∧ zDb w E k v l.length xs ∧ (∀ g, blk A' = some g → o g = some loc ∧ ∀ p, m g p = none) ∧
  ((∀ (i : Nat) (r : List D), l[i]? = some r → r.length = k) ∧ (l = [] → cap = 0) ∧ ∀ u, r = some u → v = u) ∧ ∀ (i : Nat) (r : List D) (j : Nat) (d : D), l[i]? = some r → r[j]? = some d → ∃ u, xs[i * k + j]? = some u ∧ RepD m d u
def RepT (m : Mem) (w : World) (o : OwnM) (loc : Nat × Nat) : T → Value → Prop
 | .d x, v => RepD m x v
 | .agg l, v => ∃ vs : Array Value, v = .agg vs ∧ RepL m l vs.toList
 | .own E k l, v => zJ0 m w o loc E k l v
 | .ptr j off, v => ∃ g, o g = some (OB + j, 0) ∧ v = .pointer (some ⟨g, off, none⟩)
 | .view j off E k n, v => ∃ A' c, n ≤ c ∧ c ≤ maxLen ∧ v = .slice A' n c ∧ (c = 0 ∨ ∃ g cs E', o g = some (OB + j, 0) ∧ A' = some ⟨g, off, none⟩ ∧ w.heap[g]? = some (.cells cs E' (0, 0)) ∧ off + c * k ≤ cs.size ∧ (E = 0 ∨ E' = E))
 | .hpt c off, v => ∃ g, o g = some (OB + (OB + c), 0) ∧ v = .pointer (some ⟨g, off, none⟩)
 | .hvw c off E k n, v => ∃ A' q, n ≤ q ∧ q ≤ maxLen ∧ v = .slice A' n q ∧ (q = 0 ∨ ∃ g cs E', o g = some (OB + (OB + c), 0) ∧ A' = some ⟨g, off, none⟩ ∧ w.heap[g]? = some (.cells cs E' (0, 0)) ∧ off + q * k ≤ cs.size ∧ (E = 0 ∨ E' = E))
 | .mpt j, v => ∃ g, o g = some (OB + j, 0) ∧ v = .map (some g)
 | .xs E k l r, v => XsAt m w o loc E k l r v
 | .any, v => v.oneCell' = true
def T.isPt : T → Bool | .any | .xs _ _ _ _ | .mpt _ | .ptr _ _ | .view _ _ _ _ _ | .hpt _ _ | .hvw _ _ _ _ _ => true | _ => false
def noPt (l : List T) : Bool := l.all fun x => !x.isPt
def T.isAgg : T → Bool | .agg _ => true | _ => false
def zIn (m : Mem) (w : World) (o : OwnM) (s : Nat) (l : List T) (g : Nat) : Prop :=
 o g = some (s, 0) ∧ (∀ p, m g p = none) ∧ ∃ (cs : Array Value) (E : Nat), w.heap[g]? = some (.cells cs E (0, 0)) ∧ l.length ≤ cs.size ∧
  ∀ (j : Nat) (x : T), l[j]? = some x → x.isAgg = false ∧ ∃ u, cs[j]? = some u ∧ RepT m w o (s, j + 1) x u
def RepE (m : Mem) : T → Value → Prop
 | .d x, v => RepD m x v
 | .agg l, v => ∃ vs : Array Value, v = .agg vs ∧ RepL m l vs.toList
 | _, _ => False
theorem RepE.mono {m m' : Mem} (hm : Mle m m') : ∀ {x : T} {v : Value}, RepE m x v → RepE m' x v
 | .d _, _, h => RepD.mono hm h
 | .agg _, _, ⟨vs, e, h⟩ => ⟨vs, e, h.mono hm⟩
def RepC (m : Mem) (o : OwnM) : CkE → Value → Prop
 | .live c, v => ∃ g, v = .pointer (some ⟨g, 0, none⟩) ∧ o g = some (OB + (OB + c), 0)
 | .fz l, v => ∃ g p, v = .pointer (some ⟨g, p, none⟩) ∧ ∀ (j : Nat) (d : D), l[j]? = some d → ∃ u, m g (p + j) = some u ∧ RepD m d u
def Stm (es : Array MapEntry) (ck : Nat) : Prop := (∀ x ∈ es.toList, x.born < ck) ∧ (es.toList.map (·.born)).Nodup
def RepA (m : Mem) (w : World) (o : OwnM) (S : Nat → A) (s : Nat) : A → Value → Prop
 | .t x, v => RepT m w o (s, 0) x v
 | .tup l, v => ∃ vs : Array Value, v = .tuple vs ∧ vs.size = l.length ∧ ∀ (j : Nat) (x : T), l[j]? = some x → ∃ u, vs[j]? = some u ∧ RepT m w o (s, j + 1) x u
 | .imm l, v => ∃ g p, v = .pointer (some ⟨g, p, none⟩) ∧ ∀ (j : Nat) (d : D), l[j]? = some d → ∃ u, m g (p + j) = some u ∧ RepD m d u
 | .box l, v => ∃ g, (s < OB → v = .pointer (some ⟨g, 0, none⟩)) ∧ zIn m w o s l g
 | .ref b off, v => ∃ g, o g = some (b, 0) ∧ v = .pointer (some ⟨g, off, none⟩) ∧ (b < OB → ∃ l, S b = .box l)
 | .free, _ => ∀ g k, o g ≠ some (s, k)
 | .ag l, v => ∃ vs : Array Value, v = .agg vs ∧ vs.size = l.length ∧ ∀ (j : Nat) (x : T), l[j]? = some x → ∃ u, vs[j]? = some u ∧ u.oneCell' = true ∧ RepT m w o (s, j + 1) x u
 | .hp _, _ => True
 | .mp l, _ => ∃ g, o g = some (s, 0) ∧ (∀ p, m g p = none) ∧ ∃ (es : Array MapEntry) (ck : Nat), w.heap[g]? = some (.map es ck) ∧ Stm es ck ∧ es.size = l.length ∧ ∀ (i : Nat) (x : T × T), l[i]? = some x → ∃ e, es[i]? = some e ∧ RepE m x.1 e.key ∧ RepE m x.2 e.val
 | .lst l, v => ∃ g cap, v = .slice (some ⟨g, 0, none⟩) l.length cap ∧ l.length ≤ cap ∧ cap ≤ maxLen ∧ ∀ (j : Nat) (x : T), l[j]? = some x → ∃ u, m g j = some u ∧ RepT m w o (s, j + 1) x u
 | .cl f caps, v => ∃ ptrs : Array Value, v = .func (.func f) #[] ptrs ∧ ptrs.size = caps.length ∧ ∀ (i : Nat) (l : List T), caps[i]? = some l → ∃ g, ptrs[i]? = some (.pointer (some ⟨g, 0, none⟩)) ∧ ∀ (j : Nat) (x : T), l[j]? = some x → ∃ u, m g j = some u ∧ RepT m w o (s, 0) x u
 | .ck f cs, v => ∃ ptrs : Array Value, v = .func (.func f) #[] ptrs ∧ ptrs.size = cs.length ∧ ∀ (i : Nat) (c : CkE), cs[i]? = some c → ∃ v, ptrs[i]? = some v ∧ RepC m o c v
 | .imt l, v => ∃ g, v = .pointer (some ⟨g, 0, none⟩) ∧ ∀ (j : Nat) (x : T), l[j]? = some x → ∃ u, m g j = some u ∧ RepT m w o (s, 0) x u
 | .rcd b u mE oE, _ => o b = some (s, 0) ∧ (∀ p, m b p = none) ∧ w.heap[b]? = some u ∧ Mle mE m ∧ ∀ g c, oE g = some (OB + (OB + c), 0) → o g = some (OB + (OB + c), 0)
 | .fr E k, v => ∃ g n cap cur, v = .slice (some ⟨g, 0, none⟩) n cap ∧ o g = some (s, 0) ∧ (∀ p, m g p = none) ∧ w.heap[g]? = some (.cells cur E (0, 0)) ∧ n ≤ cap ∧ cap ≤ maxLen ∧ cur.size = cap * k
 | .any, _ => True
def zBA (w w' : World) (g : Nat) : Prop := ∀ (cs : Array Value) (E : Nat) (f : Nat × Nat), w.heap[g]? = some (.cells cs E f) → ∃ cs' : Array Value, w'.heap[g]? = some (.cells cs' E f) ∧ cs'.size = cs.size
theorem zBA.refl (w : World) (g : Nat) : zBA w w g := fun cs _ _ h => ⟨cs, h, rfl⟩
theorem zBA.trans {a b c : World} {g : Nat} (h : zBA a b g) (k : zBA b c g) : zBA a c g := fun cs E f q =>
 let ⟨cs1, q1, e1⟩ := h cs E f q
 let ⟨cs2, q2, e2⟩ := k cs1 E f q1
 ⟨cs2, q2, e2.trans e1⟩
theorem zBA.of_eq {w w' : World} {g : Nat} (h : w'.heap[g]? = w.heap[g]?) : zBA w w' g := fun cs _ _ q => ⟨cs, h.trans q, rfl⟩
theorem zBA.of_lt {w w' : World} {g : Nat} (h : g < w.heap.size → w'.heap[g]? = w.heap[g]?) : zBA w w' g := fun cs E f q => ⟨cs, (h (by
 rcases Nat.lt_or_ge g w.heap.size with h | h
 · exact h
 · rw [Array.getElem?_eq_none h] at q; cases q)).trans q, rfl⟩
def WShp (w w' : World) (g : Nat) : Prop := ∀ (cs : Array Value) (E : Nat) (f : Nat × Nat), w.heap[g]? = some (.cells cs E f) → ∃ (cs' : Array Value) (f' : Nat × Nat), w'.heap[g]? = some (.cells cs' E f') ∧ cs'.size = cs.size
theorem zBA.w {w w' : World} {g : Nat} (h : zBA w w' g) : WShp w w' g := fun cs E f q => let ⟨cs', a, b⟩ := h cs E f q; ⟨cs', f, a, b⟩
theorem WShp.trans {a b c : World} {g : Nat} (h : WShp a b g) (k : WShp b c g) : WShp a c g := fun cs E f q =>
 let ⟨cs1, f1, q1, e1⟩ := h cs E f q
 let ⟨cs2, f2, q2, e2⟩ := k cs1 E f1 q1
 ⟨cs2, f2, q2, e2.trans e1⟩
structure Same (G : Nat → Prop) (w w' : World) : Prop where
 os : w'.os = w.os
 tape : w'.tape = w.tape
 output : w'.output = w.output
 size : w.heap.size ≤ w'.heap.size
 block : ∀ k, k < w.heap.size → ¬ G k → w'.heap[k]? = w.heap[k]?
 shape : ∀ k, WShp w w' k
theorem Same.refl (G : Nat → Prop) (w : World) : Same G w w := ⟨rfl, rfl, rfl, Nat.le_refl _, fun _ _ _ => rfl, fun _ => (zBA.refl _ _).w⟩
theorem Same.trans {G : Nat → Prop} {a b c : World} (h : Same G a b) (k : Same (fun x => G x ∨ a.heap.size ≤ x) b c) : Same G a c :=
 ⟨k.os.trans h.os, k.tape.trans h.tape, k.output.trans h.output, Nat.le_trans h.size k.size, fun i hi hg => (k.block i (Nat.lt_of_lt_of_le hi h.size) (fun e => e.elim hg (fun h2 => absurd h2 (by omega)))).trans (h.block i hi hg), fun i => (h.shape i).trans (k.shape i)⟩
theorem Same.weaken {G G' : Nat → Prop} {a b : World} (h : Same G a b) (hg : ∀ k, G k → G' k) : Same G' a b :=
 ⟨h.os, h.tape, h.output, h.size, fun i hi hn => h.block i hi fun e => hn (hg _ e), h.shape⟩
theorem Same.below {a b : World} (h : Same (fun _ => False) a b) : Below a.heap.size a b := ⟨h.os, h.tape, h.output, h.size, fun k hk => h.block k hk id⟩
theorem Same.of_below {G : Nat → Prop} {a b : World} (h : Below a.heap.size a b) : Same G a b := ⟨h.os, h.tape, h.output, h.size, fun k hk _ => h.block k hk, fun k => (zBA.of_lt fun hk => h.block k hk).w⟩
theorem Same.alloc (G : Nat → Prop) (w : World) (o : Obj) : Same G w (w.alloc o) := .of_below ((Below.refl _ _).alloc (Nat.le_refl _) o)
theorem Same.drew (G : Nat → Prop) (w : World) : Same G w w.drew := ⟨rfl, rfl, rfl, Nat.le_refl _, fun _ _ _ => rfl, fun _ => (zBA.refl _ _).w⟩
def OB2 : Nat := 2199023255552
def HK : Nat := 2199023255551
def pin (pins : List Nat) (o0 o : OwnM) : Prop := ∀ s, (s ∈ pins ∨ OB ≤ s) → ∀ g, o0 g = some (s, 0) → o g = some (s, 0)
def shp (pins : List Nat) (o0 : OwnM) (w0 w : World) : Prop := ∀ g j, o0 g = some (OB + j, 0) → (OB + j ∈ pins ∨ OB2 ≤ OB + j) ∧ zBA w0 w g
structure GD where
 p : Nat → Prop
 ds : List Deferred
instance : CoeFun GD fun _ => Nat → Prop := ⟨GD.p⟩
structure Inv (w0 : World) (m0 : Mem) (o0 : OwnM) (G : GD) (pins : List Nat) (S : Nat → A) (a : Act) (w : World) (m : Mem) (o : OwnM) : Prop where
 same : Same G.p w0 w
 sat : ∀ b p u, m b p = some u → w.cell? ⟨b, p, none⟩ = some u
 mono : Mle m0 m
 old : ∀ b, b < w0.heap.size → ¬ G b → m b = m0 b
 own : ∀ g l, o g = some l → G g ∨ w0.heap.size ≤ g
 lt : ∀ g l, o g = some l → g < w.heap.size
 inj : ∀ g g' l, o g = some l → o g' = some l → g = g'
 pinned : pin pins o0 o
 slots : ∀ s, RepA m w o S s (S s) (a.tmps.getD s undef)
 defers : a.defers = G.ds
 tbl : Mle TBL m0
 wide : a.tmps.size ≤ OB
 shps : shp pins o0 w0 w
theorem shp.keep {pins : List Nat} {o0 o : OwnM} {w0 w w' : World} (h : shp pins o0 w0 w) (hp : pin pins o0 o) (k : ∀ g j, o g = some (OB + j, 0) → zBA w w' g) : shp pins o0 w0 w' :=
 fun g j hg => ⟨(h g j hg).1, (h g j hg).2.trans (k g j (hp _ (.inr (Nat.le_add_right _ _)) g hg))⟩
structure Keep (C : Nat × Nat → Prop) (m : Mem) (w : World) (o : OwnM) (m' : Mem) (w' : World) (o' : OwnM) : Prop where
 mle : Mle m m'
 mem : ∀ g l, o g = some l → ¬ C l → m' g = m g
 heap : ∀ g l, o g = some l → ¬ C l → w'.heap[g]? = w.heap[g]?
 own : ∀ g l, o g = some l → ¬ C l → o' g = some l
 pt : ∀ g j, o g = some (OB + j, 0) → o' g = some (OB + j, 0)
 up : ∀ g s k, ¬ C (s, k) → o' g = some (s, k) → ∃ g' k', o g' = some (s, k')
 sh : ∀ g j, o g = some (OB + j, 0) → zBA w w' g
section
variable {C : Nat × Nat → Prop} {m m' : Mem} {w w' : World} {o o' : OwnM}
theorem zCG {j off E k n : Nat} (hpt : ∀ g j, o g = some (OB + j, 0) → o' g = some (OB + j, 0)) (hsh : ∀ g j, o g = some (OB + j, 0) → zBA w w' g) {loc loc' : Nat × Nat} {v : Value} (h : RepT m w o loc (.view j off E k n) v) : RepT m' w' o' loc' (.view j off E k n) v := by
 obtain ⟨A', c, h1, h2, h3, h4⟩ := h
 refine ⟨A', c, h1, h2, h3, h4.imp id ?_⟩
 rintro ⟨g, cs, E1, k1, k2, k3, k4, k5⟩
 obtain ⟨cs', q1, q2⟩ := hsh g j k1 cs _ _ k3
 exact ⟨g, cs', E1, hpt g j k1, k2, q1, by rw [q2]; exact k4, k5⟩
theorem zDe {c off E k n : Nat} (hpt : ∀ g j, o g = some (OB + j, 0) → o' g = some (OB + j, 0)) (hsh : ∀ g j, o g = some (OB + j, 0) → zBA w w' g) {loc loc' : Nat × Nat} {v : Value} (h : RepT m w o loc (.hvw c off E k n) v) : RepT m' w' o' loc' (.hvw c off E k n) v :=
 zCG (m := m) (m' := m') (j := OB + c) (loc := loc) (loc' := loc') hpt hsh h
theorem zA3 {v : Value} {E k n : Nat} {xs : List Value} (h : zDb w E k v n xs) (hh : ∀ g, v.ownBlock = some g → w'.heap[g]? = w.heap[g]?) : zDb w' E k v n xs := by
 refine ⟨h.1, ?_⟩
 rcases h.2 with h | ⟨g, q, cap, cur, hv, hg, h2⟩
 · exact .inl h
 ·
  obtain ⟨e, he, h3⟩ := hg
  exact .inr ⟨g, q, cap, cur, hv, ⟨e, (hh g (by rw [hv]; rfl)).trans he, h3⟩, h2⟩
theorem RepT.keep (K : Keep C m w o m' w' o') {loc : Nat × Nat} (hC : ¬ C loc) {x : T} {v : Value} (h : RepT m w o loc x v) : RepT m' w' o' loc x v := by
 cases x with
 | d x => exact RepD.mono K.mle h
 | agg l => obtain ⟨vs, e, h⟩ := h; exact ⟨vs, e, h.mono K.mle⟩
 | own E k l =>
  obtain ⟨A', cap, xs, e, h1, h2, h3, h4⟩ := h
  refine ⟨A', cap, xs, e, ?_, ?_, h3, ?_⟩
  ·
   refine zA3 h1 fun g hg => ?_
   rw [e, qR] at hg
   exact K.heap g loc (h2 g hg).1 hC
  ·
   intro g hg
   refine ⟨K.own g loc (h2 g hg).1 hC, fun p hp => ?_⟩
   rw [K.mem g loc (h2 g hg).1 hC]
   exact (h2 g hg).2 p hp
  ·
   intro i r j d a b
   obtain ⟨u, c, f⟩ := h4 i r j d a b
   exact ⟨u, c, f.mono K.mle⟩
 | ptr j off => obtain ⟨g, h1, h2⟩ := h; exact ⟨g, K.pt g j h1, h2⟩
 | view j off E k n => exact zCG K.pt K.sh h
 | hpt c off => obtain ⟨g, h1, h2⟩ := h; exact ⟨g, K.pt g _ h1, h2⟩
 | hvw c off E k n => exact zDe K.pt K.sh h
 | mpt j => obtain ⟨g, h1, h2⟩ := h; exact ⟨g, K.pt g j h1, h2⟩
 | xs E k l rv =>
  obtain ⟨A', cap, xs, e, h1, h2, h3, h4⟩ := h
  refine ⟨A', cap, xs, e, ?_, ?_, h3, ?_⟩
  ·
   refine zA3 h1 fun g hg => ?_
   rw [e, qR] at hg
   exact K.heap g loc (h2 g hg).1 hC
  ·
   intro g hg
   refine ⟨K.own g loc (h2 g hg).1 hC, fun p => ?_⟩
   rw [K.mem g loc (h2 g hg).1 hC]
   exact (h2 g hg).2 p
  ·
   intro i r j d a b
   obtain ⟨u, c, f⟩ := h4 i r j d a b
   exact ⟨u, c, f.mono K.mle⟩
 | any => exact h
theorem zIn.keep (K : Keep C m w o m' w' o') {s : Nat} (hC : ∀ j, ¬ C (s, j)) {l : List T} {g : Nat} (h : zIn m w o s l g) : zIn m' w' o' s l g := by
 obtain ⟨h1, h2, cs, E, h3, h4, h5⟩ := h
 refine ⟨K.own g _ h1 (hC 0), fun p => by rw [K.mem g _ h1 (hC 0)]; exact h2 p, cs, E, (K.heap g _ h1 (hC 0)).trans h3, h4, fun j x hj => ?_⟩
 obtain ⟨a, u, b, c⟩ := h5 j x hj
 exact ⟨a, u, b, c.keep K (hC _)⟩
theorem RepA.keep (K : Keep C m w o m' w' o') {S S' : Nat → A} {s : Nat} (hC : ∀ j, ¬ C (s, j)) {x : A} {v : Value}
  (hS : ∀ b off, x = .ref b off → b < OB → (¬ C (b, 0)) ∧ ((∃ l, S b = .box l) → ∃ l, S' b = .box l)) (h : RepA m w o S s x v) : RepA m' w' o' S' s x v := by
 cases x with
 | t x => exact RepT.keep K (hC 0) h
 | tup l =>
  obtain ⟨vs, e, h1, h2⟩ := h
  refine ⟨vs, e, h1, fun j x hj => ?_⟩
  obtain ⟨u, a, b⟩ := h2 j x hj
  exact ⟨u, a, b.keep K (hC _)⟩
 | imm l =>
  obtain ⟨g, p, e, h⟩ := h
  refine ⟨g, p, e, fun j d hj => ?_⟩
  obtain ⟨u, a, b⟩ := h j d hj
  exact ⟨u, K.mle _ _ _ a, b.mono K.mle⟩
 | box l => obtain ⟨g, e, h⟩ := h; exact ⟨g, e, h.keep K hC⟩
 | ref b off =>
  obtain ⟨g, h1, h2, h3⟩ := h
  by_cases hb : b < OB
  ·
   obtain ⟨a, b'⟩ := hS b off rfl hb
   exact ⟨g, K.own g _ h1 a, h2, fun _ => b' (h3 hb)⟩
  ·
   obtain ⟨j, rfl⟩ : ∃ j, b = OB + j := ⟨b - OB, by omega⟩
   exact ⟨g, K.pt g j h1, h2, fun h => absurd h hb⟩
 | free => exact fun g k e => let ⟨g', k', e'⟩ := K.up g s k (hC k) e; h g' k' e'
 | ag l =>
  obtain ⟨vs, e, h1, h2⟩ := h
  refine ⟨vs, e, h1, fun j x hj => ?_⟩
  obtain ⟨u, a, c, b⟩ := h2 j x hj
  exact ⟨u, a, c, b.keep K (hC _)⟩
 | lst l =>
  obtain ⟨g, cap, e, h1, h2, h3⟩ := h
  refine ⟨g, cap, e, h1, h2, fun j x hj => ?_⟩
  obtain ⟨u, a, b⟩ := h3 j x hj
  exact ⟨u, K.mle _ _ _ a, b.keep K (hC _)⟩
 | fr E k =>
  obtain ⟨g, n, cap, cur, h1, h2, h3, h4, h5⟩ := h
  exact ⟨g, n, cap, cur, h1, K.own g _ h2 (hC 0), fun p => by rw [K.mem g _ h2 (hC 0)]; exact h3 p, (K.heap g _ h2 (hC 0)).trans h4, h5⟩
 | hp f => trivial
 | cl f caps =>
  obtain ⟨ptrs, e, h1, h2⟩ := h
  refine ⟨ptrs, e, h1, fun i l hi => ?_⟩
  obtain ⟨g, a, b⟩ := h2 i l hi
  refine ⟨g, a, fun j x hj => ?_⟩
  obtain ⟨u, c, d⟩ := b j x hj
  exact ⟨u, K.mle _ _ _ c, d.keep K (hC 0)⟩
 | ck f cs =>
  obtain ⟨ptrs, e, h1, h2⟩ := h
  refine ⟨ptrs, e, h1, fun i c hi => ?_⟩
  obtain ⟨v, a, b⟩ := h2 i c hi
  refine ⟨v, a, ?_⟩
  cases c with
  | live c => obtain ⟨g, b1, b2⟩ := b; exact ⟨g, b1, K.pt g _ b2⟩
  | fz l => obtain ⟨g, p, b1, b2⟩ := b; exact ⟨g, p, b1, fun j d hj => let ⟨u, q1, q2⟩ := b2 j d hj; ⟨u, K.mle _ _ _ q1, q2.mono K.mle⟩⟩
 | imt l =>
  obtain ⟨g, a, b⟩ := h
  refine ⟨g, a, fun j x hj => ?_⟩
  obtain ⟨u, c, d⟩ := b j x hj
  exact ⟨u, K.mle _ _ _ c, d.keep K (hC 0)⟩
 | rcd b u mE oE =>
  obtain ⟨h1, h2, h3, h4, h5⟩ := h
  exact ⟨K.own b _ h1 (hC 0), fun p => by rw [K.mem b _ h1 (hC 0)]; exact h2 p, (K.heap b _ h1 (hC 0)).trans h3, h4.trans K.mle, fun g c hg => K.pt g _ (h5 g c hg)⟩
 | mp l =>
  obtain ⟨g, h1, h2, es, ck, h3, hst, h4, h5⟩ := h
  refine ⟨g, K.own g _ h1 (hC 0), fun p => by rw [K.mem g _ h1 (hC 0)]; exact h2 p, es, ck, (K.heap g _ h1 (hC 0)).trans h3, hst, h4, fun i x hi => ?_⟩
  obtain ⟨e, a, b, c⟩ := h5 i x hi
  exact ⟨e, a, b.mono K.mle, c.mono K.mle⟩
 | any => trivial
end
def upd (S : Nat → A) (d : Nat) (x : A) : Nat → A := fun t => if t = d then x else S t
def A.isBox : A → Bool | .box _ => true | _ => false
theorem zZ (S : Nat → A) (d : Nat) (x : A) : upd S d x d = x := by simp [upd]
theorem zH {S : Nat → A} {d t : Nat} {x : A} (h : t ≠ d) : upd S d x t = S t := by simp [upd, h]
theorem zGF (a : Act) (d : Nat) (v : Value) (s : Nat) : (a.put (some d) v).tmps.getD s undef = if s = d ∧ d < a.tmps.size then v else a.tmps.getD s undef := by
 unfold Act.put
 simp only [Array.getD_eq_getD_getElem?, Array.getElem?_setIfInBounds]
 by_cases h : d = s
 ·
  subst h
  by_cases h2 : d < a.tmps.size
  · simp [h2]
  · simp [h2]
 ·
  have h3 : ¬ s = d := fun e => h e.symm
  simp [h, h3]
theorem zE1 {d j : Nat} (h : d < OB) : OB + j ≠ d := by omega
theorem zA6 (a : Act) (d : Option Nat) (v : Value) : (a.put d v).tmps.size = a.tmps.size := by cases d <;> simp [Act.put]
section
variable {w0 : World} {m0 : Mem} {o0 : OwnM} {G : GD} {pins : List Nat} {S : Nat → A} {a : Act} {w : World} {m : Mem} {o : OwnM}
theorem Inv.put {w' : World} {m' : Mem} (I : Inv w0 m0 o0 G pins S a w m o) (d : Nat) (x : A) (v : Value) (hd : d < a.tmps.size) (hbox : (S d).isBox = false) (hx : RepA m' w' o (upd S d x) d x v)
  (hs : Same G w0 w') (hsat : ∀ b p u, m' b p = some u → w'.cell? ⟨b, p, none⟩ = some u) (hm : Mle m m') (hold : ∀ b, b < w.heap.size → m' b = m b) (hheap : ∀ g, g < w.heap.size → w'.heap[g]? = w.heap[g]?) (hsz : w.heap.size ≤ w'.heap.size) :
  Inv w0 m0 o0 G pins (upd S d x) (a.put (some d) v) w' m' o := by
 have K : Keep (fun _ => False) m w o m' w' o := ⟨hm, fun g l h _ => hold g (I.lt g l h), fun g l h _ => hheap g (I.lt g l h), fun g l h _ => h, fun g j h => h, fun g _ k _ h => ⟨g, k, h⟩, fun g j h => .of_eq (hheap g (I.lt g _ h))⟩
 refine ⟨hs, hsat, I.mono.trans hm, fun b hb hg => ?_, I.own, fun g l h => Nat.lt_of_lt_of_le (I.lt g l h) hsz, I.inj, I.pinned, fun s => ?_, I.defers, I.tbl, by rw [zA6]; exact I.wide, I.shps.keep I.pinned K.sh⟩
 ·
  rw [hold b (Nat.lt_of_lt_of_le hb I.same.size)]
  exact I.old b hb hg
 ·
  rw [zGF]
  by_cases h : s = d
  ·
   subst h
   rw [if_pos ⟨rfl, hd⟩, zZ]
   exact hx
  ·
   rw [if_neg (fun e => h e.1), zH h]
   refine RepA.keep K (fun _ => id) (fun b off _ _ => ⟨id, fun ⟨l, hl⟩ => ?_⟩) (I.slots s)
   refine ⟨l, ?_⟩
   have : b ≠ d := fun e => by subst e; rw [hl] at hbox; cases hbox
   rw [zH this, hl]
theorem Inv.set (I : Inv w0 m0 o0 G pins S a w m o) (d : Nat) (x : A) (v : Value) (hd : d < a.tmps.size) (hbox : (S d).isBox = false) (hx : RepA m w o (upd S d x) d x v) :
  Inv w0 m0 o0 G pins (upd S d x) (a.put (some d) v) w m o :=
 I.put d x v hd hbox hx I.same I.sat (Mle.refl _) (fun _ _ => rfl) (fun _ _ => rfl) (Nat.le_refl _)
theorem Inv.drew (I : Inv w0 m0 o0 G pins S a w m o) : Inv w0 m0 o0 G pins S a w.drew m o :=
 ⟨I.same.trans (Same.drew _ _), I.sat, I.mono, I.old, I.own, I.lt, I.inj, I.pinned, fun s => RepA.keep (C := fun _ => False) (w := w) (w' := w.drew) ⟨Mle.refl _, fun _ _ _ _ => rfl, fun _ _ _ _ => rfl, fun _ _ h _ => h, fun _ _ h => h, fun g _ k _ h => ⟨g, k, h⟩, fun g _ _ => .of_eq rfl⟩ (fun _ => id) (fun _ _ _ _ => ⟨id, id⟩) (I.slots s), I.defers, I.tbl, I.wide, I.shps.keep I.pinned fun g _ _ => .of_eq rfl⟩
end
end Go.Proofs.Ytjomnccladjpgaa

/-
 Operations that only compute: what they give, told by the slots' data; and that the model gives just that.
-/
namespace Go.Proofs.Ytjomnccladjpgaa
open Go Go.RowKit
def cpT : T → T
 | .own _ k l => .d (.seq k l)
 | .xs _ _ _ _ => .any
 | x => x
def cpA : A → A
 | .t x => .t (cpT x)
 | .tup l => .tup (l.map cpT)
 | .box _ => .any
 | .free => .any
 | .hp _ => .any
 | .mp _ => .any
 | .rcd _ _ _ _ => .any
 | .cl f caps => .cl f (caps.map fun l => l.map cpT)
 | .imt l => .imt (l.map cpT)
 | .ag l => .ag (l.map cpT)
 | .lst l => .lst (l.map cpT)
 | .fr _ _ => .any
 | x => x
def litA (v : Value) : A := match v with
 | .agg cs => if cs.toList.all (·.oneCell') then .t (.agg (cs.toList.map .lit)) else .any
 | .tuple _ => .any
 | v => .t (.d (.lit v))
def cpO (S : Nat → A) : Operand → A
 | .tmp t => match S t with
  | .box _ => bif Nat.blt t OB then .ref t 0 else .any
  | .t (.ptr j off) => .ref (OB + j) off
  | x => cpA x
 | .const v => litA v
 | .func f => .t (.d (.lit (.func (.func f) #[] #[])))
 | .global _ => .any
def dO (S : Nat → A) (x : Operand) : Option D := match cpO S x with | .t (.d y) => some y | _ => none
def vO (S : Nat → A) (x : Operand) : Option Value := match dO S x with | some (.lit u) => some u | _ => none
def Mk (M S : Nat → A) : Prop := ∀ t, M t = .any ∨ M t = S t
theorem Mk.refl (S : Nat → A) : Mk S S := fun _ => .inr rfl
section
variable {w0 : World} {m0 : Mem} {o0 : OwnM} {G : GD} {pins : List Nat} {S M : Nat → A} {a : Act} {w : World} {m : Mem} {o : OwnM}
theorem zEC {loc : Nat × Nat} {E k : Nat} {l : List (List D)} {v : Value} (hsat : ∀ b p u, m b p = some u → w.cell? ⟨b, p, none⟩ = some u) (h : zJ0 m w o loc E k l v) : RepD m (.seq k l) v := by
 obtain ⟨A', cap, xs, rfl, h1, h2, h3, h4⟩ := h
 rcases A' with _ | ad
 ·
  have hl : l = [] := by
   rcases h1.2 with ⟨_, h⟩ | ⟨g, q, c, cur, hv, _⟩
   · exact List.eq_nil_of_length_eq_zero h
   · injection hv with hv; cases hv
  subst hl
  exact .seq k [] none cap 0 0 (fun _ _ => undef) (by simp) (by
   rcases h1.2 with ⟨hv, _⟩ | ⟨g, q, c, cur, hv, _⟩
   · injection hv with _ _ h; rw [h]; exact Nat.zero_le _
   · injection hv with hv; cases hv) (fun h => absurd rfl h) (fun i r h => by simp at h) (fun i r j d h => by simp at h) (fun i r j d h => by simp at h)
 ·
  obtain ⟨g, q, hg⟩ : ∃ g q, ad = ⟨g, q, none⟩ := by
   rcases h1.2 with ⟨hv, _⟩ | ⟨g, q, c, cur, hv, _⟩
   · injection hv with hv; cases hv
   · injection hv with hv; injection hv with hv; exact ⟨g, q, hv⟩
  subst hg
  have hcap : l.length ≤ cap ∧ cap ≤ maxLen := by
   rcases h1.2 with ⟨hv, _⟩ | ⟨g, q, c, cur, hv, _, h5, h6, _⟩
   · injection hv with hv; cases hv
   · injection hv with _ _ hv; subst hv; exact ⟨h5, h6⟩
  refine .seq k l _ cap g q (fun i j => (xs[i * k + j]?).getD undef) hcap.1 hcap.2 (fun _ => rfl) h3 (fun i r j d a b => ?_) (fun i r j d a b => ?_)
  ·
   obtain ⟨u, hu, _⟩ := h4 i r j d a b
   have hil : i < l.length := (List.getElem?_eq_some_iff.1 a).1
   have hjk : j < k := by rw [← h3 i r a]; exact (List.getElem?_eq_some_iff.1 b).1
   have hbd : i * k + j < cap * k := Nat.lt_of_lt_of_le (by rw [Nat.add_comm]; exact Nat.lt_of_lt_of_le (Nat.add_lt_add_right hjk _) (by rw [Nat.add_comm, ← Nat.succ_mul]; exact Nat.mul_le_mul_right _ hil)) (Nat.mul_le_mul_right _ hcap.1)
   have := (h2 g rfl).2 (i * k + j) hbd
   rw [Nat.add_assoc, show q + (i * k + j) = offA (some ⟨g, q, none⟩) + (i * k + j) from rfl, this, hu]
   rfl
  ·
   obtain ⟨u, hu, hr⟩ := h4 i r j d a b
   rw [hu]
   exact hr
theorem zC1 (hsat : ∀ b p u, m b p = some u → w.cell? ⟨b, p, none⟩ = some u) {loc loc' : Nat × Nat} {x : T} {v : Value} (h : RepT m w o loc x v) : RepT m w o loc' (cpT x) v := by
 cases x with
 | d x => exact h
 | agg l => exact h
 | own E k l => exact zEC hsat h
 | ptr j off => exact h
 | view j off E k n => exact h
 | hpt c off => exact h
 | mpt c => exact h
 | xs E k l rv => (first | exact h | exact hr | exact k2 | exact k3 | exact h4 | exact h5 | exact id | trivial | (cases hp; done) | (cases hx; done) | (cases hl; done) | (obtain ⟨A1, c1, xs1, e1, _⟩ := h; subst e1; rfl) | (obtain ⟨A1, c1, xs1, e1, _⟩ := hr; subst e1; rfl) | rfl)
 | any => exact h
 | hvw c off E k n => exact h
theorem zCs (s : Nat) (v : Value) : RepA m w o S s (litA v) v := by
 cases v <;> try exact RepD.lit _ rfl
 case agg cs =>
  unfold litA
  simp only
  split
  case isFalse => trivial
  rename_i hall
  refine ⟨cs, rfl, by simp, fun j d hj => ?_⟩
  rw [List.getElem?_map] at hj
  cases hu : cs.toList[j]? with
  | none => rw [hu] at hj; cases hj
  | some u =>
   rw [hu] at hj
   injection hj with hj
   subst hj
   exact ⟨u, rfl, .lit u (List.all_eq_true.1 hall u (List.mem_of_getElem? hu))⟩
 case tuple => trivial
theorem qG (hM : Mk M S) (I : Inv w0 m0 o0 G pins S a w m o) (x : Operand) (s : Nat) : RepA m w o S s (cpO M x) (a.eval x) := by
 cases x with
 | const v => exact zCs s v
 | global g => trivial
 | func f => exact RepD.lit _ rfl
 | tmp t =>
  have h := I.slots t
  unfold cpO
  rcases hM t with e | e
  ·
   simp only [e]
   trivial
  ·
   show RepA m w o S s (match M t with | .box _ => (bif Nat.blt t OB then .ref t 0 else .any) | .t (.ptr j off) => .ref (OB + j) off | x => cpA x) (a.tmps.getD t undef)
   rw [e]
   revert h
   generalize a.tmps.getD t undef = v
   generalize hst : S t = x
   intro h
   cases x with
   | t x =>
    cases x with
    | ptr j off => obtain ⟨g, h1, h2⟩ := h; exact ⟨g, h1, h2, fun hb => absurd hb (by omega)⟩
    | d x => exact h
    | agg l => exact h
    | own E k l => exact zEC I.sat h
    | view j off E k n => exact h
    | hpt c off => exact h
    | mpt c => exact h
    | xs E k l rv => (first | exact h | exact hr | exact k2 | exact k3 | exact h4 | exact h5 | exact id | trivial | (cases hp; done) | (cases hx; done) | (cases hl; done) | (obtain ⟨A1, c1, xs1, e1, _⟩ := h; subst e1; rfl) | (obtain ⟨A1, c1, xs1, e1, _⟩ := hr; subst e1; rfl) | rfl)
    | any => exact h
    | hvw c off E k n => exact h
   | tup l =>
    obtain ⟨vs, e, h1, h2⟩ := h
    refine ⟨vs, e, by simpa using h1, fun j y hj => ?_⟩
    rw [List.getElem?_map] at hj
    cases hu : l[j]? with
    | none => rw [hu] at hj; cases hj
    | some z =>
     rw [hu] at hj
     injection hj with hj
     subst hj
     obtain ⟨u, h3, h4⟩ := h2 j z hu
     exact ⟨u, h3, zC1 I.sat h4⟩
   | imm l => exact h
   | box l =>
    obtain ⟨g, e, h1, _⟩ := h
    show RepA m w o S s (bif Nat.blt t OB then .ref t 0 else .any) v
    cases hb : Nat.blt t OB with
    | true => exact ⟨g, h1, e (by simpa using hb), fun _ => ⟨l, hst⟩⟩
    | false => trivial
   | ref b off => exact h
   | free => trivial
   | hp f => trivial
   | mp l => trivial
   | rcd b u mE oE => trivial
   | ck f cs => exact h
   | cl f caps =>
    obtain ⟨ptrs, e, h1, h2⟩ := h
    refine ⟨ptrs, e, by simpa using h1, fun i l hi => ?_⟩
    rw [List.getElem?_map] at hi
    cases hu : caps[i]? with
    | none => rw [hu] at hi; cases hi
    | some z =>
     rw [hu] at hi
     injection hi with hi
     subst hi
     obtain ⟨g, h3, h4⟩ := h2 i z hu
     refine ⟨g, h3, fun j y hj => ?_⟩
     rw [List.getElem?_map] at hj
     cases hw : z[j]? with
     | none => rw [hw] at hj; cases hj
     | some q =>
      rw [hw] at hj
      injection hj with hj
      subst hj
      obtain ⟨u, h5, h6⟩ := h4 j q hw
      exact ⟨u, h5, zC1 I.sat h6⟩
   | imt l =>
    obtain ⟨g, h3, h4⟩ := h
    refine ⟨g, h3, fun j y hj => ?_⟩
    rw [List.getElem?_map] at hj
    cases hw : l[j]? with
    | none => rw [hw] at hj; cases hj
    | some q =>
     rw [hw] at hj
     injection hj with hj
     subst hj
     obtain ⟨u, h5, h6⟩ := h4 j q hw
     exact ⟨u, h5, zC1 I.sat h6⟩
   | ag l =>
    obtain ⟨vs, e, h1, h2⟩ := h
    refine ⟨vs, e, by simpa using h1, fun j y hj => ?_⟩
    rw [List.getElem?_map] at hj
    cases hu : l[j]? with
    | none => rw [hu] at hj; cases hj
    | some z =>
     rw [hu] at hj
     injection hj with hj
     subst hj
     obtain ⟨u, h3, h5, h4⟩ := h2 j z hu
     exact ⟨u, h3, h5, zC1 I.sat h4⟩
   | lst l =>
    obtain ⟨g, cap, e, h1, h2, h6⟩ := h
    refine ⟨g, cap, by simpa using e, by simpa using h1, h2, fun j y hj => ?_⟩
    rw [List.getElem?_map] at hj
    cases hu : l[j]? with
    | none => rw [hu] at hj; cases hj
    | some z =>
     rw [hu] at hj
     injection hj with hj
     subst hj
     obtain ⟨u, h3, h4⟩ := h6 j z hu
     exact ⟨u, h3, zC1 I.sat h4⟩
   | fr E k => trivial
   | any => trivial
theorem zD1 (hM : Mk M S) (I : Inv w0 m0 o0 G pins S a w m o) {x : Operand} {d : D} (h : dO M x = some d) : RepD m d (a.eval x) := by
 have := qG hM I x 0
 unfold dO at h
 split at h
 ·
  rename_i y hy
  injection h with h
  subst h
  rw [hy] at this
  exact this
 · cases h
theorem zB1 (hM : Mk M S) (I : Inv w0 m0 o0 G pins S a w m o) {x : Operand} {u : Value} (h : vO M x = some u) : a.eval x = u := by
 unfold vO at h
 split at h
 ·
  rename_i y hy
  injection h with h
  subst h
  cases zD1 hM I hy
  rfl
 · cases h
end
def zEk (s : Sem Value) : Option Value := match s with | .pure v => some v | _ => none
theorem zEt {s : Sem Value} {v : Value} (h : zEk s = some v) (P : Program) (w : World) : s.run P w = .ok v w := by
 unfold zEk at h
 split at h
 · injection h with h; subst h; rfl
 · cases h
def binV (op : BinOp) (u v : Value) : Option Value := match op, u, v with
 | .shl, .int k a, .int yk b => zEk (Op.shift .shl k a yk b)
 | .shr, .int k a, .int yk b => zEk (Op.shift .shr k a yk b)
 | op, .int k a, .int k' b => if k ≠ k' then none else match op with
  | .add | .sub | .mul => zEk (Op.intArith op k a b)
  | .quo | .rem => zEk (Op.intDiv op k a b)
  | .and | .or | .xor | .andNot => zEk (Op.intBits op k a b)
  | _ => zEk (Op.intCmp op a b)
 | op, .string a, .string b => zEk (Op.stringOp op a b)
 | _, _, _ => none
theorem binV_str (op : BinOp) (a b : ByteArray) : binV op (.string a) (.string b) = zEk (Op.stringOp op a b) := by cases op <;> rfl
theorem binV_run {op : BinOp} {u v r : Value} (h : binV op u v = some r) (P : Program) (w : World) (t : TypeId) (x y : Operand) : (do eqGuard op t x y u v; binOp op t u v).run P w = .ok r w := by
  have hg : ∀ {u v : Value}, (match u, v with | .int _ _, .int _ _ => true | .string _, .string _ => true | _, _ => false) = true → (eqGuard op t x y u v).run P w = .ok () w := by
    intro u v h
    unfold eqGuard
    cases op <;> (cases u <;> first | (cases h; done) | (cases v <;> first | (cases h; done) | rfl))
  cases u <;> try (cases op <;> cases h; done)
  case int k a =>
    cases v <;> try (cases op <;> cases h; done)
    case int k' b =>
      rw [Sem.run_bind, hg rfl, Result.andThen_ok]
      cases op <;> first
        | exact zEt h P w
        | (unfold binV at h
           simp only at h
           split at h
           · cases h
           · rename_i hk
             simp only [binOp]
             rw [if_neg hk]
             exact zEt h P w)
  case string a =>
    cases v <;> try (cases op <;> cases h; done)
    case string b =>
      rw [Sem.run_bind, hg rfl, Result.andThen_ok]
      rw [binV_str] at h
      rw [show binOp op t (.string a) (.string b) = Op.stringOp op a b by cases op <;> rfl]
      exact zEt h P w
def unV (op : UnOp) (u : Value) : Option Value := zEk (Op.unary op u)
end Go.Proofs.Ytjomnccladjpgaa

/-
 Operations that leave the world alone: what they give, told by the slots' data; and that the model gives just that.
-/
namespace Go.Proofs.Ytjomnccladjpgaa
open Go Go.RowKit
set_option linter.unusedVariables false
def TypeDesc.aggr : TypeDesc → Bool | .struct _ | .array _ _ => true | _ => false
def tyA (P : Program) (t : TypeId) : Option (Bool × Nat) := match P.underlying t, P.info? t with
 | some d, some i => some (TypeDesc.aggr d, i.size)
 | _, _ => none
def toD : T → D
 | .d x => x
 | .own _ k l => .seq k l
 | .agg _ => .lit undef
 | .ptr _ _ => .lit undef
 | .view _ _ _ _ _ => .lit undef
 | .hpt _ _ => .lit undef
 | .hvw _ _ _ _ _ => .lit undef
 | .mpt _ => .lit undef
 | .xs _ _ _ _ => .lit undef
 | .any => .lit undef
def norA : T → A
 | .ptr j off => .ref (OB + j) off
 | x => .t (cpT x)
def slD (k : Nat) : Option D → Option (List (List D))
 | some (.seq k' l) => if k = k' then some l else none
 | some (.lit (.slice none 0 0)) => some []
 | _ => none
def qE (bs : List UInt8) : List (List D) := bs.map fun b => [.lit (.int .u8 (b.toNat : Int))]
section
variable {w0 : World} {m0 : Mem} {o0 : OwnM} {G : GD} {pins : List Nat} {S M : Nat → A} {a : Act} {w : World} {m : Mem} {o : OwnM} {P : Program}
theorem zJH {t : TypeId} {b : Bool} {n : Nat} (h : tyA P t = some (b, n)) : ∃ d i, P.underlying t = some d ∧ P.info? t = some i ∧ TypeDesc.aggr d = b ∧ i.size = n := by
 unfold tyA at h
 split at h
 ·
  rename_i d i h1 h2
  injection h with h
  injection h with ha hb
  exact ⟨d, i, h1, h2, ha, hb⟩
 · cases h
theorem zIP {t : TypeId} {d : TypeDesc} (h : P.underlying t = some d) (w : World) : (isAgg t).run P w = .ok (TypeDesc.aggr d) w := by
 unfold isAgg
 rw [Sem.run_bind, run_underlying h w]
 cases d <;> rfl
theorem zAw {t : TypeId} {n : Nat} (h : tyA P t = some (false, n)) {ad : Addr} {u : Value} (hc : w.cell? ad = some u) : (loadVar t ad).run P w = .ok u w := by
 obtain ⟨d, i, h1, h2, h3, h4⟩ := zJH h
 simp [loadVar, zIP h1, h3, hc]
theorem zC3 {t : TypeId} {n : Nat} (h : tyA P t = some (true, n)) {g p : Nat} {vs : List Value} (hn : vs.length = n) (hc : ∀ j v, vs[j]? = some v → w.cell? ⟨g, p + j, none⟩ = some v) : (loadVar t ⟨g, p, none⟩).run P w = .ok (.agg vs.toArray) w := by
 obtain ⟨d, i, h1, h2, h3, h4⟩ := zJH h
 refine run_loadVar_mid w g p t vs d hc h1 ?_ (by rw [h2]; simp [h4, hn])
 cases d <;> first | rfl | (cases h3)
def ldF (P : Program) (M : Nat → A) (t : TypeId) (x : Operand) : Option A := match cpO M x, tyA P t with
 | .imm l, some (false, _) => (l[0]?).map fun d => .t (.d d)
 | .imm l, some (true, n) => if n = l.length then some (.t (.agg l)) else if n ≤ l.length then some (.t (.agg (l.take n))) else none
 | .ref b off, some (false, _) => match M b with | .box l => (l[off]?).map norA | _ => none
 | .ref b off, some (true, n) => match M b with | .box l => if noPt ((l.drop off).take n) = true then (if off = 0 ∧ n = l.length then some (.t (.agg (l.map toD))) else if off + n ≤ l.length then some (.t (.agg (((l.drop off).take n).map toD))) else none) else none | _ => none
 | _, _ => none
theorem zIY {l : List D} {g p : Nat} (h : ∀ (j : Nat) (d : D), l[j]? = some d → ∃ u, m g (p + j) = some u ∧ RepD m d u) : ∃ vs : List Value, RepL m l vs ∧ ∀ j v, vs[j]? = some v → m g (p + j) = some v := by
 refine ⟨l.zipIdx.map fun x => (m g (p + x.2)).getD undef, ⟨by simp, fun j d hj => ?_⟩, fun j v hj => ?_⟩
 ·
  obtain ⟨u, h1, h2⟩ := h j d hj
  refine ⟨u, ?_, h2⟩
  simp [List.getElem?_zipIdx, hj, h1]
 ·
  simp only [List.getElem?_map, List.getElem?_zipIdx] at hj
  cases hd : l[j]? with
  | none => simp [hd] at hj
  | some d =>
   obtain ⟨u, h1, h2⟩ := h j d hd
   simp [hd, h1] at hj
   rw [h1, hj]
theorem RepT.toD {loc : Nat × Nat} {x : T} {v : Value} (hsat : ∀ b p u, m b p = some u → w.cell? ⟨b, p, none⟩ = some u) (h : RepT m w o loc x v) (hx : x.isAgg = false) (hp : x.isPt = false) : RepD m (toD x) v := by
 cases x with
 | d x => exact h
 | own E k l => exact zEC hsat h
 | agg l => cases hx
 | ptr j off => cases hp
 | view j off E k n => cases hp
 | hpt c off => cases hp
 | mpt c => cases hp
 | xs E k l rv => (first | exact h | exact hr | exact k2 | exact k3 | exact h4 | exact h5 | exact id | trivial | (cases hp; done) | (cases hx; done) | (cases hl; done) | (obtain ⟨A1, c1, xs1, e1, _⟩ := h; subst e1; rfl) | (obtain ⟨A1, c1, xs1, e1, _⟩ := hr; subst e1; rfl) | rfl)
 | any => cases hp
 | hvw c off E k n => cases hp
theorem norA_rep {S : Nat → A} (hsat : ∀ b p u, m b p = some u → w.cell? ⟨b, p, none⟩ = some u) {loc : Nat × Nat} {s : Nat} {x : T} {v : Value} (h : RepT m w o loc x v) : RepA m w o S s (norA x) v := by
 cases x with
 | ptr j off => obtain ⟨g, h1, h2⟩ := h; exact ⟨g, h1, h2, fun hb => absurd hb (by omega)⟩
 | d x => exact h
 | agg l => exact h
 | own E k l => exact zEC hsat h
 | view j off E k n => exact h
 | hpt c off => exact h
 | mpt c => exact h
 | xs E k l rv => (first | exact h | exact hr | exact k2 | exact k3 | exact h4 | exact h5 | exact id | trivial | (cases hp; done) | (cases hx; done) | (cases hl; done) | (obtain ⟨A1, c1, xs1, e1, _⟩ := h; subst e1; rfl) | (obtain ⟨A1, c1, xs1, e1, _⟩ := hr; subst e1; rfl) | rfl)
 | any => exact h
 | hvw c off E k n => exact h
theorem zJT (hM : Mk M S) {b : Nat} {l : List T} (h : M b = .box l) : S b = .box l := by
 rcases hM b with e | e
 · rw [e] at h; cases h
 · rw [← e]; exact h
theorem zIz (hM : Mk M S) (I : Inv w0 m0 o0 G pins S a w m o) {t : TypeId} {x : Operand} {y : A} (h : ldF P M t x = some y) : ∀ s, ∃ v, (Instr.loadAt t (a.eval x)).run P w = .ok v w ∧ RepA m w o S s y v := by
 intro s
 have hx := qG hM I x s
 unfold ldF at h
 split at h
 ·
  rename_i l n hl ht
  rw [hl] at hx
  obtain ⟨g, p, e, hc⟩ := hx
  cases hd : l[0]? with
  | none => rw [hd] at h; cases h
  | some d =>
   rw [hd] at h
   injection h with h
   subst h
   obtain ⟨u, h1, h2⟩ := hc 0 d hd
   refine ⟨u, ?_, h2⟩
   rw [e]
   simp only [Instr.loadAt, Instr.sureAddr, Sem.run_bind, Sem.run_pure, Result.andThen_ok]
   exact zAw ht (I.sat _ _ _ h1)
 ·
  rename_i l n hl ht
  rw [hl] at hx
  obtain ⟨g, p, e, hc⟩ := hx
  have h : (if n ≤ l.length then some (A.t (.agg (l.take n))) else none) = some y := by
   split at h
   ·
    rename_i hn
    rw [if_pos (by omega), hn, List.take_length]
    exact h
   · exact h
  split at h
  ·
   rename_i hn
   injection h with h
   subst h
   obtain ⟨vs, h1, h2⟩ := zIY (m := m) (l := l.take n) (g := g) (p := p) (fun j d hj => hc j d (by rw [List.getElem?_take] at hj; split at hj; exact hj; cases hj))
   refine ⟨.agg vs.toArray, ?_, vs.toArray, rfl, by simpa using h1⟩
   rw [e]
   simp only [Instr.loadAt, Instr.sureAddr, Sem.run_bind, Sem.run_pure, Result.andThen_ok]
   refine zC3 ht (by rw [h1.1]; simp [hn]) fun j v hj => I.sat _ _ _ (h2 j v hj)
  · cases h
 ·
  rename_i b off n hl ht
  rw [hl] at hx
  obtain ⟨g, h1, e, _⟩ := hx
  split at h
  ·
   rename_i l hb
   have hs := I.slots b
   rw [zJT hM hb] at hs
   obtain ⟨g', _, h2, h3, cs, E, h4, h5, h6⟩ := hs
   have := I.inj _ _ _ h1 h2
   subst this
   cases hd : l[off]? with
   | none => rw [hd] at h; cases h
   | some z =>
    rw [hd] at h
    injection h with h
    subst h
    obtain ⟨hz, u, h7, h8⟩ := h6 off z hd
    refine ⟨u, ?_, norA_rep I.sat h8⟩
    rw [e]
    simp only [Instr.loadAt, Instr.sureAddr, Sem.run_bind, Sem.run_pure, Result.andThen_ok]
    exact zAw ht (by rw [cell_of_row w g off cs E _ h4]; exact h7)
  · cases h
 ·
  rename_i b off n hl ht
  rw [hl] at hx
  obtain ⟨g, h1, e, _⟩ := hx
  split at h
  ·
   rename_i l hb
   have hs := I.slots b
   rw [zJT hM hb] at hs
   obtain ⟨g', _, h2, h3, cs, E, h4, h5, h6⟩ := hs
   have := I.inj _ _ _ h1 h2
   subst this
   split at h
   case isFalse => cases h
   rename_i hpt
   have h : (if off + n ≤ l.length then some (A.t (.agg (((l.drop off).take n).map toD))) else none) = some y := by
    split at h
    ·
     rename_i hn
     rw [if_pos (by omega), hn.1, hn.2, List.drop_zero, List.take_length]
     exact h
    · exact h
   split at h
   ·
    rename_i hn
    injection h with h
    subst h
    refine ⟨.agg ((cs.toList.drop off).take n).toArray, ?_, _, rfl, ?_, fun j d hj => ?_⟩
    ·
     rw [e]
     simp only [Instr.loadAt, Instr.sureAddr, Sem.run_bind, Sem.run_pure, Result.andThen_ok]
     refine zC3 ht (by simp; omega) fun j v hj => ?_
     rw [cell_of_row w g (off + j) cs E _ h4]
     rw [List.getElem?_take] at hj
     split at hj
     · rw [List.getElem?_drop] at hj; simpa using hj
     · cases hj
    · simp; omega
    ·
     rw [List.getElem?_map, List.getElem?_take, List.getElem?_drop] at hj
     simp only [List.getElem?_take, List.getElem?_drop]
     split at hj
     ·
      rename_i hjn
      rw [if_pos hjn]
      cases hz : l[off + j]? with
      | none => rw [hz] at hj; cases hj
      | some z =>
       rw [hz] at hj
       injection hj with hj
       subst hj
       obtain ⟨ha, u, h7, h8⟩ := h6 (off + j) z hz
       have hzp : z.isPt = false := by
        have := List.all_eq_true.1 hpt z (List.mem_of_getElem? (i := j) (by rw [List.getElem?_take, if_pos hjn, List.getElem?_drop]; exact hz))
        simpa using this
       exact ⟨u, by simpa using h7, h8.toD I.sat ha hzp⟩
     · cases hj
   · cases h
  · cases h
 · cases h
def fdF (P : Program) (M : Nat → A) (t : TypeId) (x : Operand) (f : Nat) : Option A := match P.underlying t with
 | some (.struct fs) => match fs[f]? with
  | some fd => match P.info? fd.type with
   | some i => if i.size = 0 then none else match cpO M x with
    | .imm l => some (.imm (l.drop fd.offset))
    | .ref b off => some (.ref b (off + fd.offset))
    | _ => none
   | none => none
  | none => none
 | _ => none
theorem fdF_rep (hM : Mk M S) (I : Inv w0 m0 o0 G pins S a w m o) {t : TypeId} {x : Operand} {f : Nat} {y : A} (h : fdF P M t x f = some y) : ∀ s, ∃ v, (Instr.fieldAt t (a.eval x) f).run P w = .ok v w ∧ RepA m w o S s y v := by
 intro s
 have hx := qG hM I x s
 unfold fdF at h
 split at h
 case h_2 => cases h
 rename_i fs hu
 split at h
 case h_2 => cases h
 rename_i fd hf
 split at h
 case h_2 => cases h
 rename_i i hi
 split at h
 · cases h
 rename_i hsz
 have hrun : ∀ g p, (Instr.fieldAt t (.pointer (some ⟨g, p, none⟩)) f).run P w = .ok (.pointer (some ⟨g, p + fd.offset, none⟩)) w := by
  intro g p
  simp [Instr.fieldAt, run_underlying hu, hf, Instr.sureAddr, fieldPlace, sizeOf, typeInfo, hi, hsz, Addr.add_mid]
 split at h
 ·
  rename_i l hl
  rw [hl] at hx
  injection h with h
  subst h
  obtain ⟨g, p, e, hc⟩ := hx
  refine ⟨_, by rw [e]; exact hrun g p, g, p + fd.offset, rfl, fun j d hj => ?_⟩
  rw [List.getElem?_drop] at hj
  rw [Nat.add_assoc]
  exact hc _ _ hj
 ·
  rename_i b off hl
  rw [hl] at hx
  injection h with h
  subst h
  obtain ⟨g, h1, e, hb⟩ := hx
  exact ⟨_, by rw [e]; exact hrun g off, g, h1, rfl, hb⟩
 · cases h
theorem zFD {k : Nat} {x : Option D} {l : List (List D)} {v : Value} (h : slD k x = some l) (hr : ∀ d, x = some d → RepD m d v) : RepD m (.seq k l) v := by
 unfold slD at h
 split at h
 ·
  rename_i k' l'
  split at h
  ·
   rename_i e
   injection h with h
   subst e h
   exact hr _ rfl
  · cases h
 ·
  injection h with h
  subst h
  cases hr _ rfl
  exact .seq k [] none 0 0 0 (fun _ _ => undef) (Nat.le_refl _) (Nat.zero_le _) (fun h => absurd rfl h) (fun i r h => by simp at h) (fun i r j d h => by simp at h) (fun i r j d h => by simp at h)
 · cases h
def ixF (P : Program) (M : Nat → A) (t : TypeId) (x i : Operand) : Option A := match vO M i with
 | some (.int _ n) => match P.underlying t with
  | some (.slice e) => match P.info? e with
   | some ie => match slD ie.size (dO M x) with
    | some l => if 0 ≤ n ∧ n < l.length then (l[n.toNat]?).map .imm else none
    | none => none
   | none => none
  | some (.array len e) => match P.info? e with
   | some ie => if 0 ≤ n ∧ n < len then match cpO M x with
     | .imm l => some (.imm (l.drop (n.toNat * ie.size)))
     | .ref b off => some (.ref b (off + n.toNat * ie.size))
     | _ => none
    else none
   | none => none
  | _ => none
 | _ => none
theorem ixF_rep (hM : Mk M S) (I : Inv w0 m0 o0 G pins S a w m o) {t : TypeId} {x i : Operand} {y : A} (h : ixF P M t x i = some y) : ∀ s, ∃ v, (Instr.indexAt t (a.eval x) (a.eval i)).run P w = .ok v w ∧ RepA m w o S s y v := by
 intro s
 unfold ixF at h
 split at h
 case h_2 => cases h
 rename_i ki n hn
 rw [zB1 hM I hn]
 split at h
 ·
  rename_i e hu
  split at h
  case h_2 => cases h
  rename_i ie hie
  split at h
  case h_2 => cases h
  rename_i l hl
  split at h
  case isFalse => cases h
  rename_i hb
  have hr := zFD (m := m) (v := a.eval x) hl (fun d hd => zD1 hM I hd)
  cases hr' : l[n.toNat]? with
  | none => rw [hr'] at h; cases h
  | some r =>
   rw [hr'] at h
   injection h with h
   subst h
   generalize a.eval x = v at hr ⊢
   cases hr with
   | seq _ _ A' cap g p f hcap hmax hA hw hm hr =>
    have hne : l ≠ [] := by intro e; subst e; simp at hr'
    rw [hA hne]
    refine ⟨.pointer (some ⟨g, p + n.toNat * ie.size, none⟩), ?_, g, p + n.toNat * ie.size, rfl, fun j d hj => ⟨f n.toNat j, hm _ _ _ _ hr' hj, hr _ _ _ _ hr' hj⟩⟩
    simp [Instr.indexAt, asIntOf, run_underlying hu, hb, sizeOf, typeInfo, hie, Addr.add_mid]
 ·
  rename_i len e hu
  split at h
  case h_2 => cases h
  rename_i ie hie
  split at h
  case isFalse => cases h
  rename_i hb
  have hx := qG hM I x s
  have hrun : ∀ g p, (Instr.indexAt t (.pointer (some ⟨g, p, none⟩)) (.int ki n)).run P w = .ok (.pointer (some ⟨g, p + n.toNat * ie.size, none⟩)) w := by
   intro g p
   simp [Instr.indexAt, asIntOf, Instr.sureAddr, run_underlying hu, hb, sizeOf, typeInfo, hie, Addr.add_mid]
  split at h
  ·
   rename_i l hl
   rw [hl] at hx
   injection h with h
   subst h
   obtain ⟨g, p, e, hc⟩ := hx
   refine ⟨_, by rw [e]; exact hrun g p, g, _, rfl, fun j d hj => ?_⟩
   rw [List.getElem?_drop] at hj
   rw [Nat.add_assoc]
   exact hc _ _ hj
  ·
   rename_i b off hl
   rw [hl] at hx
   injection h with h
   subst h
   obtain ⟨g, h1, e, hb⟩ := hx
   exact ⟨_, by rw [e]; exact hrun g off, g, h1, rfl, hb⟩
  · cases h
 · cases h
def lnF (P : Program) (M : Nat → A) (t : TypeId) (x : Operand) : Option Value := match P.underlying t with
 | some (.slice _) => match dO M x with
  | some (.seq _ l) => some (.int .i64 l.length)
  | some (.lit (.slice _ n _)) => some (.int .i64 n)
  | _ => none
 | some .string => match vO M x with
  | some (.string s) => some (.int .i64 s.size)
  | _ => none
 | some (.array n _) => some (.int .i64 n)
 | _ => none
theorem lnF_run (hM : Mk M S) (I : Inv w0 m0 o0 G pins S a w m o) {t ty : TypeId} {x : Operand} {y : Value} (h : lnF P M t x = some y) : (Builtin.len_ #[t] ty #[a.eval x]).run P w = .ok y w := by
 unfold lnF at h
 split at h
 ·
  rename_i e hu
  split at h
  ·
   rename_i k l hd
   injection h with h
   subst h
   have hr := zD1 hM I hd
   generalize a.eval x = v at hr ⊢
   cases hr
   simp [Builtin.len_, run_underlying hu, goInt]
  ·
   rename_i A' n c hd
   injection h with h
   subst h
   have e : a.eval x = .slice A' n c := by
    have := zD1 hM I hd
    generalize a.eval x = v at this
    cases this; rfl
   rw [e]
   simp [Builtin.len_, run_underlying hu, goInt]
  · cases h
 ·
  rename_i hu
  split at h
  ·
   rename_i s hs
   injection h with h
   subst h
   rw [zB1 hM I hs]
   simp [Builtin.len_, run_underlying hu, goInt]
  · cases h
 ·
  rename_i n e hu
  injection h with h
  subst h
  simp [Builtin.len_, run_underlying hu, goInt]
 · cases h
end
end Go.Proofs.Ytjomnccladjpgaa
