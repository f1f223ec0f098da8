/-
  Words for memory that this seat's contracts use: a row of cells behind an optional address, bytes, how they are kept from world to world.
-/
import Derived.WalkKit
import Derived.OpenShut
import Derived.ProofKit
import Derived.Deep.QuietTactic
import Derived.BigQuiet
import Derived.Lib.Hide
import Derived.WalkSmall
import Derived.Laws.OwnMore
import Derived.Deep.Draws
import Derived.WalkSpells
import Derived.WalkLawsBesides
import Derived.Deep.RegionHeld3
import Derived.Deep.Cut
import Derived.StillTailTactics
import Derived.Deep.CutRange
import Derived.Deep.CutBlock
import Derived.Deep.DeepFit
import Derived.Laws.BitsAllLaws
namespace Go.Proofs.YtimdogdplphmoaaDoor
open Go.RowKit

/-- Behind the optional address A the world w holds the cells xs, one behind the other. -/
def Row (w : World) (A : Option Addr) (xs : List Value) : Prop := ∀ j u, xs[j]? = some u → ∃ ad, A = some ad ∧ w.cell? (ad.add j) = some u

theorem block_add (a : Addr) (n : Nat) : (a.add n).block = a.block := by unfold Addr.add; split <;> rfl
theorem add_add (a : Addr) (i j : Nat) : (a.add i).add j = a.add (i + j) := by
  unfold Addr.add
  by_cases hi : i = 0 <;> by_cases hj : j = 0 <;> simp [hi, hj, Nat.add_assoc]
theorem add_zero (a : Addr) : a.add 0 = a := by simp [Addr.add]

section
variable {w w' : World} {A : Option Addr} {xs : List Value}
theorem Row.nil (w : World) (A : Option Addr) : Row w A [] := by intro j u h; simp at h
theorem Row.keep (h : Row w A xs) (hk : ∀ p : Addr, p.block < w.heap.size → w'.cell? p = w.cell? p) : Row w' A xs := by
  intro j u hu
  obtain ⟨ad, e, hc⟩ := h j u hu
  exact ⟨ad, e, (hk _ (World.block_lt_of_cell? w _ hc)).trans hc⟩
theorem Row.below (h : Row w A xs) (hb : Below w.heap.size w w') : Row w' A xs := h.keep fun _ hp => hb.cell hp
theorem Row.drew (h : Row w A xs) : Row w.drew A xs := h
theorem Row.drewN (h : Row w A xs) (k : Nat) : Row (w.drewN k) A xs := h
theorem Row.alloc (h : Row w A xs) (o : Obj) : Row (w.alloc o) A xs := h.keep fun p hp => World.cell?_alloc_lt w o p hp
theorem Row.at_ (h : Row w A xs) {j : Nat} (hj : j < xs.length) : ∃ ad, A = some ad ∧ w.cell? (ad.add j) = some xs[j] := h j _ (List.getElem?_eq_getElem hj)
theorem Row.take (h : Row w A xs) (k : Nat) : Row w A (xs.take k) := by
  intro j u hu
  rw [List.getElem?_take] at hu
  split at hu
  · exact h j u hu
  · cases hu
/-- The tail of a row, behind the address as the model cuts it. -/
theorem Row.cut (h : Row w A xs) {k cap : Nat} (hc : xs.length ≤ cap) : Row w (if cap = k then A else A.map (·.add k)) (xs.drop k) := by
  intro j u hu
  rw [List.getElem?_drop] at hu
  obtain ⟨ad, rfl, hcell⟩ := h _ u hu
  have hlt : k + j < xs.length := by
    rcases Nat.lt_or_ge (k + j) xs.length with g | g
    · exact g
    · rw [List.getElem?_eq_none g] at hu; cases hu
  rw [if_neg (by omega)]
  exact ⟨_, rfl, by rw [add_add]; exact hcell⟩
theorem Row.of_own {base : Nat} {e : TypeId} {c n sz : Nat} (h : w.ownsRow base e sz (.slice A n c) n xs) : Row w A xs := by
  intro j u hu
  rcases A with _ | ad
  · rcases h.2 with ⟨_, h0⟩ | ⟨g, cap, cur, hv, _⟩
    · subst h0
      have := h.1
      simp at this
      subst this
      simp at hu
    · injection hv with hv; cases hv
  · rcases h.2 with ⟨hv, _⟩ | ⟨g, cap, cur, hv, _⟩
    · injection hv with hv; cases hv
    · injection hv with hv
      injection hv with hv
      subst hv
      exact ⟨_, rfl, h.cells (g := g) rfl j u hu⟩
end

theorem Row.of_block {w : World} {g : Nat} {cs : Array Value} {e : TypeId} {fr : Nat × Nat} (h : w.heap[g]? = some (.cells cs e fr)) {xs : List Value} (hx : cs.toList.take xs.length = xs) : Row w (some ⟨g, 0, none⟩) xs := by
  intro j u hu
  refine ⟨_, rfl, ?_⟩
  have hadd : (⟨g, 0, none⟩ : Addr).add j = ⟨g, j, none⟩ := by unfold Addr.add; split <;> simp_all
  rw [hadd, cell_of_row w g j cs e fr h]
  rw [← hx, List.getElem?_take] at hu
  split at hu
  · simpa using hu
  · cases hu

/-- A byte as a cell. -/
def cb8 (b : UInt8) : Value := .int .u8 (b.toNat : Int)
/-- Bytes as cells: a name that no rule of the walk opens. -/
def u8s (bs : List UInt8) : List Value := bs.map cb8
theorem u8s_length (bs : List UInt8) : (u8s bs).length = bs.length := by simp [u8s]
theorem u8s_append (a b : List UInt8) : u8s (a ++ b) = u8s a ++ u8s b := by simp [u8s]
theorem u8s_snoc (a : List UInt8) (b : UInt8) : u8s (a ++ [b]) = u8s a ++ [cb8 b] := by simp [u8s]
theorem u8s_cons (a : UInt8) (b : List UInt8) : u8s (a :: b) = cb8 a :: u8s b := rfl
theorem u8s_nil : u8s [] = [] := rfl
/-- Bytes behind an optional address. -/
def Byt (w : World) (A : Option Addr) (bs : List UInt8) : Prop := Row w A (u8s bs)

section
variable {w w' : World} {A : Option Addr} {bs : List UInt8}
theorem Byt.nil (w : World) (A : Option Addr) : Byt w A [] := Row.nil w A
theorem Byt.below (h : Byt w A bs) (hb : Below w.heap.size w w') : Byt w' A bs := Row.below h hb
theorem Byt.drew (h : Byt w A bs) : Byt w.drew A bs := h
theorem Byt.drewN (h : Byt w A bs) (k : Nat) : Byt (w.drewN k) A bs := h
theorem Byt.alloc (h : Byt w A bs) (o : Obj) : Byt (w.alloc o) A bs := Row.alloc h o
theorem Byt.at_ (h : Byt w A bs) {j : Nat} (hj : j < bs.length) : ∃ ad, A = some ad ∧ w.cell? (ad.add j) = some (.int .u8 (bs[j].toNat : Int)) := by
  obtain ⟨ad, e, hc⟩ := Row.at_ h (j := j) (by simpa [u8s] using hj)
  exact ⟨ad, e, by simpa [cb8, u8s] using hc⟩
theorem Byt.take (h : Byt w A bs) (k : Nat) : Byt w A (bs.take k) := by
  have := Row.take h k
  unfold u8s at this
  rwa [← List.map_take] at this
theorem Byt.cut (h : Byt w A bs) {k cap : Nat} (hc : bs.length ≤ cap) : Byt w (if cap = k then A else A.map (·.add k)) (bs.drop k) := by
  have := Row.cut h (k := k) (cap := cap) (by simpa [u8s] using hc)
  unfold u8s at this
  rwa [← List.map_drop] at this
end

theorem Byt.of_block {w : World} {g : Nat} {cs : Array Value} {e : TypeId} {fr : Nat × Nat} (h : w.heap[g]? = some (.cells cs e fr)) {bs : List UInt8} (hx : cs.toList.take bs.length = u8s bs) : Byt w (some ⟨g, 0, none⟩) bs :=
  Row.of_block h (by rw [u8s_length]; exact hx)

theorem World.drewN_below {B : Nat} {a w : World} (h : Below B a w) (n : Nat) : Below B a (w.drewN n) := ⟨h.os, h.tape, h.output, h.size, h.block⟩

/-- A cell of the newest block. -/
theorem cell_new {w : World} {cs : Array Value} {e : TypeId} {fr : Nat × Nat} {g : Nat} (h : g = w.heap.size) (i : Nat) : (w.alloc (.cells cs e fr)).cell? ⟨g, i, none⟩ = cs[i]? := by
  subst h
  exact cell_of_row _ _ i cs e fr (heap_alloc_new w _)

theorem cell_newd {w : World} {cs : Array Value} {e : TypeId} {fr : Nat × Nat} {g : Nat} (h : g = w.heap.size) (i : Nat) : (w.alloc (.cells cs e fr)).drew.cell? ⟨g, i, none⟩ = cs[i]? := cell_new h i

/-- From here on the world is a letter, of which the facts F are known. -/
theorem wp_abs {P : Program} {c : Code} {Q : Exit → Act → World → Prop} {a : Act} {w : World} (F : World → Prop) (hF : F w) (h : ∀ W, F W → Code.wp P c Q a W) : Code.wp P c Q a w := h w hF

theorem ret_eq {a b : Value} (h : a = b) : Ending.returned a = .returned b := by rw [h]
theorem ret_int {k : IntKind} {a b : Int} (h : a = b) : Ending.returned (.int k a) = .returned (.int k b) := by rw [h]
theorem ret_bool {a b : Bool} (h : a = b) : Ending.returned (.bool a) = .returned (.bool b) := by rw [h]

/-- Numbers that fit a byte are bytes. -/
theorem bytes_of_wf (zs : List Int) (h : ∀ n ∈ zs, (Lit.int .u8 n).wf = true) : ∃ bs : List UInt8, zs.map (Value.int .u8) = u8s bs ∧ bs.length = zs.length := by
  induction zs with
  | nil => exact ⟨[], rfl, rfl⟩
  | cons z zs ih =>
    obtain ⟨bs, e, l⟩ := ih (fun n hn => h n (List.mem_cons_of_mem _ hn))
    have hz := h z List.mem_cons_self
    have hb := bounds_u8 hz
    refine ⟨UInt8.ofNat z.toNat :: bs, ?_, by simp [l]⟩
    rw [List.map_cons, u8s_cons, e]
    congr 1
    unfold cb8
    rw [UInt8.toNat_ofNat']
    congr 1
    omega

end Go.Proofs.YtimdogdplphmoaaDoor
