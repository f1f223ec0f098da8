/-
  append onto a slice that the call itself owns, whatever is appended (nil, empty, cut): one law at a plain operation; what is owned stays owned.
-/
import Derived.Test.YtimdogdplphmoaaDoorWords
import Derived.Maps.AppendAt
namespace Go.Proofs.YtimdogdplphmoaaDoor
open Go.RowKit

/-- The slice type t has elements of type e, of sz cells and by bytes. -/
structure ElemOf (P : Program) (t e : TypeId) (sz nb : Nat) : Prop where
  under : P.underlying t = some (.slice e)
  info : ∃ i z, P.info? e = some i ∧ i.zero = some z ∧ i.size = sz ∧ i.bytes = nb ∧ z.cells.size = sz
  pos : 0 < sz
  posb : 0 < nb

theorem ElemOf.mk' {P : Program} {t e : TypeId} {z : Value} {sz nb : Nat} (hu : P.underlying t = some (.slice e)) (h : (P.info? e).map (fun i => (i.zero, i.size, i.bytes)) = some (some z, sz, nb))
    (hz : z.cells.size = sz) (h1 : 0 < sz) (h2 : 0 < nb) : ElemOf P t e sz nb := by
  obtain ⟨i, hi, a, b, c⟩ := info_parts h
  exact ⟨hu, ⟨i, z, hi, a, b, c, hz⟩, h1, h2⟩

/-- The slice value '.slice A n c' owns the cells xs, in a block from B on. -/
def Own (w : World) (B : Nat) (e : TypeId) (sz : Nat) (A : Option Addr) (n c : Nat) (xs : List Value) : Prop := w.ownsRow B e sz (.slice A n c) n xs

def blk (A : Option Addr) : Option Nat := A.map (·.block)
theorem ownBlock_slice (A : Option Addr) (n c : Nat) : Value.ownBlock (.slice A n c) = blk A := by cases A <;> rfl

section
variable {w w' : World} {B : Nat} {e : TypeId} {sz n c : Nat} {A : Option Addr} {xs : List Value}
theorem Own.nil (w : World) (B : Nat) (e : TypeId) (sz : Nat) : Own w B e sz none 0 0 [] := World.ownsRow_nil w B e sz
theorem Own.lit (w : World) (cs : Array Value) (e : TypeId) (sz n : Nat) (hb : B ≤ w.heap.size) (hm : n ≤ maxLen) (hs : cs.size = n * sz) : Own (w.alloc (.cells cs e)) B e sz (some ⟨w.heap.size, 0, none⟩) n n cs.toList :=
  World.ownsRow_lit w cs n hb hm hs
theorem Own.litAt {w : World} {g : Nat} (cs : Array Value) (e : TypeId) (sz n : Nat) (xs : List Value) (hg : g = w.heap.size) (hb : B ≤ w.heap.size) (hm : n ≤ maxLen) (hs : cs.size = n * sz) (hx : cs.toList = xs) : Own (w.alloc (.cells cs e)) B e sz (some ⟨g, 0, none⟩) n n xs := by
  subst hg hx
  exact Own.lit w cs e sz n hb hm hs
theorem Own.row (h : Own w B e sz A n c xs) : Row w A xs := Row.of_own h
theorem Own.len (h : Own w B e sz A n c xs) : xs.length = n * sz := h.1
theorem Own.cap (h : Own w B e sz A n c xs) : n ≤ c := by
  rcases h.2 with ⟨hv, h0⟩ | ⟨g, cap, cur, hv, _, _, hn, _⟩
  · omega
  · injection hv with _ _ hc; omega
theorem Own.capMax (h : Own w B e sz A n c xs) : c ≤ maxLen := by
  rcases h.2 with ⟨hv, h0⟩ | ⟨g, cap, cur, hv, _, _, _, hm, _⟩
  · injection hv with _ _ hc; rw [hc]; exact Nat.zero_le _
  · injection hv with _ _ hc; rw [hc]; exact hm
theorem Own.drew (h : Own w B e sz A n c xs) : Own w.drew B e sz A n c xs := h
theorem Own.drewN (h : Own w B e sz A n c xs) (k : Nat) : Own (w.drewN k) B e sz A n c xs := h
theorem Own.alloc (h : Own w B e sz A n c xs) (o : Obj) : Own (w.alloc o) B e sz A n c xs := World.ownsRow.alloc h o
theorem Own.kept (h : Own w B e sz A n c xs) {r : Option Nat} (hg : w.grownBy w' r) (hne : blk A = none ∨ blk A ≠ r) : Own w' B e sz A n c xs :=
  World.ownsRow.kept h hg (by rw [ownBlock_slice]; exact hne)
theorem Own.lt (h : Own w B e sz A n c xs) : ∀ k, blk A = some k → B ≤ k ∧ k < w.heap.size := fun k hk => World.ownsRow.lt h k (by rw [ownBlock_slice]; exact hk)
/-- It stays owned where nothing that existed has turned. -/
theorem Own.below (h : Own w B e sz A n c xs) (hb : Below w.heap.size w w') : Own w' B e sz A n c xs :=
  h.kept (r := none) ⟨hb.os, hb.tape, hb.output, hb.size, fun k hk _ => hb.block k hk⟩ (by cases blk A <;> simp)
/-- What a grown world keeps below the base. -/
theorem Own.belowOf (h : Own w B e sz A n c xs) {B0 : Nat} {w0 : World} (hb : Below B0 w0 w) (hg : w.grownBy w' (blk A)) (h0 : B0 ≤ w.heap.size) (h1 : B0 ≤ B) : Below B0 w0 w' :=
  hb.grown hg h0 (fun k hk => Nat.le_trans h1 (h.lt k hk).1)
theorem Row.grown (h : Row w A xs) {r : Option Nat} (hg : w.grownBy w' r) (hne : ∀ ad, A = Option.some ad → Option.some ad.block ≠ r) : Row w' A xs := by
  intro j u hu
  obtain ⟨ad, e, hc⟩ := h j u hu
  refine ⟨ad, e, hg.cell hc ?_⟩
  rw [block_add]
  exact hne ad e
/-- The block of what was owned in an older world is none of the newer ones. -/
theorem Own.older (h : Own w B e sz A n c xs) {m : Nat} (hm : w.heap.size ≤ m) : Option.some m ≠ blk A := by
  intro he
  have := (h.lt m he.symm).2
  omega
theorem Own.addr (h : Own w B e sz A n c xs) (hn : 0 < n) : ∃ g, A = some ⟨g, 0, none⟩ ∧ B ≤ g ∧ g < w.heap.size := by
  rcases h.2 with ⟨_, h0⟩ | ⟨g, cap, cur, hv, hb, hg, _⟩
  · omega
  · injection hv with hA
    exact ⟨g, hA, hb, (Array.getElem?_eq_some_iff.1 hg).1⟩
end

section
variable {P : Program} (w : World)
theorem run_app {t e : TypeId} {sz nb : Nat} (E : ElemOf P t e sz nb) (ty : TypeId) (B : Nat) (A : Option Addr) (n c : Nat) (xs : List Value) (hown : Own w B e sz A n c xs)
    (A' : Option Addr) (m c' : Nat) (news : List Value) (hl : news.length = m * sz) (hnews : Row w A' news) (h1 : ∀ u ∈ news, u.oneCell' = true) (hb : (n + m) * nb ≤ 140737488355328) (hB : B ≤ w.heap.size) :
    ∃ A2 c2 w', (Builtin.append_ #[t, t] ty #[.slice A n c, .slice A' m c']).run P w = .ok (.slice A2 (n + m) c2) w' ∧ Own w' B e sz A2 (n + m) c2 (xs ++ news) ∧ w.grownBy w' (blk A) ∧ (blk A2 = blk A ∨ blk A2 = some w.heap.size) := by
  obtain ⟨i, z, hi, hz, hsize, hby, hzs⟩ := E.info
  have h63 : n + m ≤ maxLen := by
    have := Nat.le_mul_of_pos_right (n + m) E.posb
    unfold maxLen; omega
  cases A' with
  | none =>
    have hn : news = [] := by
      cases news with
      | nil => rfl
      | cons u r =>
        obtain ⟨ad, h, _⟩ := hnews 0 u rfl
        cases h
    subst hn
    have hm : m = 0 := by
      rcases Nat.eq_zero_or_pos m with h | h
      · exact h
      · have h2 := Nat.mul_pos h E.pos
        rw [← hl] at h2
        exact absurd h2 (by simp)
    subst hm
    refine ⟨A, c, w, ?_, by simpa using hown, World.grownBy.refl w _, .inl rfl⟩
    rcases hown.2 with ⟨hv, _⟩ | ⟨g, cap, cur, hv, _, _, hnc, _⟩
    · injection hv with h1 h2 h3
      subst h1 h2 h3
      simp [Builtin.append_, run_underlying E.under, sizeOf, typeInfo, hi, Builtin.lenOf, Builtin.firstCells]
    · injection hv with h1 h2 h3
      subst h1 h3
      simp [Builtin.append_, run_underlying E.under, sizeOf, typeInfo, hi, Builtin.lenOf, Builtin.firstCells, hnc, storeCells]
  | some ad =>
    have hcells : ∀ j u, news[j]? = some u → w.cell? (ad.add j) = some u := by
      intro j u hu
      obtain ⟨ad', h, hc⟩ := hnews j u hu
      injection h with h
      subst h
      exact hc
    obtain ⟨v', w', hrun, h2, h3, _, h5⟩ := run_append_own_at (P := P) w B t ty e i z sz nb E.under hi hz hsize hby hzs E.pos _ n xs hown ad m c' news hl hcells h1 h63 hb hB
    have hform : ∃ A2 c2, v' = .slice A2 (n + m) c2 := by
      rcases h2.2 with ⟨hv, h0⟩ | ⟨g, cap, cur, hv, _⟩
      · exact ⟨Option.none, 0, by rw [hv, h0]⟩
      · exact ⟨_, _, hv⟩
    obtain ⟨A2, c2, rfl⟩ := hform
    rw [ownBlock_slice] at h3
    rw [ownBlock_slice, ownBlock_slice] at h5
    exact ⟨A2, c2, w', hrun, h2, h3, h5⟩

theorem wp_app {o : Oper} {a : Act} {K : Act → World → Prop} {Q : Exit → Act → World → Prop} {t e : TypeId} {sz nb : Nat} (E : ElemOf P t e sz nb) (s x : Operand)
    (ho : o.op = .call { callee := .builtin .append, args := #[s, x], argTypes := #[t, t] })
    (B : Nat) (A : Option Addr) (n c : Nat) (xs : List Value) (hs : a.eval s = .slice A n c) (hown : Own w B e sz A n c xs)
    (A' : Option Addr) (m c' : Nat) (news : List Value) (hx : a.eval x = .slice A' m c') (hl : news.length = m * sz) (hnews : Row w A' news) (h1 : ∀ u ∈ news, u.oneCell' = true)
    (hb : (n + m) * nb ≤ 140737488355328) (hB : B ≤ w.heap.size)
    (h : ∀ A2 c2 w', Own w' B e sz A2 (n + m) c2 (xs ++ news) → w.grownBy w' (blk A) → (blk A2 = blk A ∨ blk A2 = some w.heap.size) → K (a.put o.dst (.slice A2 (n + m) c2)) w') : o.wp P a w K Q := by
  obtain ⟨A2, c2, w', hrun, h2, h3, h4⟩ := run_app (P := P) w E o.type B A n c xs hown A' m c' news hl hnews h1 hb hB
  unfold Oper.wp execOp
  simp only [ho, resolve, invoke, builtin, Sem.run_bind, Sem.run_pure, Result.andThen_ok, List.map_toArray, List.map_cons, List.map_nil, hs, hx, hrun]
  exact h _ _ _ h2 h3 h4

theorem step_app {ops : Array Oper} {o : Oper} {a : Act} {K : Act → World → Prop} {Q : Exit → Act → World → Prop} {F : Prop} {t e : TypeId} {sz nb : Nat} (E : ElemOf P t e sz nb) (hgd : o.guard = none) (s x : Operand)
    (ho : o.op = .call { callee := .builtin .append, args := #[s, x], argTypes := #[t, t] })
    (B : Nat) (A : Option Addr) (n c : Nat) (xs : List Value) (hs : a.eval s = .slice A n c) (hown : Own w B e sz A n c xs)
    (A' : Option Addr) (m c' : Nat) (news : List Value) (hx : a.eval x = .slice A' m c') (hl : news.length = m * sz) (hnews : Row w A' news) (h1 : ∀ u ∈ news, u.oneCell' = true)
    (hb : (n + m) * nb ≤ 140737488355328) (hB : B ≤ w.heap.size)
    (h : ∀ A2 c2 w', Own w' B e sz A2 (n + m) c2 (xs ++ news) → w.grownBy w' (blk A) → (blk A2 = blk A ∨ blk A2 = some w.heap.size) → K (a.put o.dst (.slice A2 (n + m) c2)) w') :
    if Region.wanted o (yielded ops a.tmps) = true then Oper.wp P o a w K Q else F := by
  have hw : Region.wanted o (yielded ops a.tmps) = true := by simp [Region.wanted, hgd]
  rw [if_pos hw]
  exact wp_app w E s x ho B A n c xs hs hown A' m c' news hx hl hnews h1 hb hB h

theorem wpList_app {ops : Array Oper} {rest : List Oper} {o : Oper} {a : Act} {Q : Exit → Act → World → Prop} {t e : TypeId} {sz nb : Nat} (E : ElemOf P t e sz nb) (hgd : o.guard = none) (s x : Operand)
    (ho : o.op = .call { callee := .builtin .append, args := #[s, x], argTypes := #[t, t] })
    (B : Nat) (A : Option Addr) (n c : Nat) (xs : List Value) (hs : a.eval s = .slice A n c) (hown : Own w B e sz A n c xs)
    (A' : Option Addr) (m c' : Nat) (news : List Value) (hx : a.eval x = .slice A' m c') (hl : news.length = m * sz) (hnews : Row w A' news) (h1 : ∀ u ∈ news, u.oneCell' = true)
    (hb : (n + m) * nb ≤ 140737488355328) (hB : B ≤ w.heap.size)
    (h : ∀ A2 c2 w', Own w' B e sz A2 (n + m) c2 (xs ++ news) → w.grownBy w' (blk A) → (blk A2 = blk A ∨ blk A2 = some w.heap.size) → wpList P ops Q rest (a.put o.dst (.slice A2 (n + m) c2)) w') : wpList P ops Q (o :: rest) a w :=
  wpList_plain hgd fun _ hK => wp_app w E s x ho B A n c xs hs hown A' m c' news hx hl hnews h1 hb hB fun A2 c2 w' h2 h3 h4 => hK _ _ (h A2 c2 w' h2 h3 h4)
end
/-- One cell, laid just before it is appended. -/
theorem row_one (w : World) (u u' : Value) (t : TypeId) (h : u = u') : Row (w.alloc (.cells #[u] t)) (some ⟨w.heap.size, 0, none⟩) [u'] := by
  subst h
  exact Row.of_block (heap_alloc_new w _) rfl
theorem u8_ofNat (q : Nat) : Value.int .u8 ((q : Int) % 256) = cb8 (UInt8.ofNat (q % 256)) := by
  unfold cb8
  rw [UInt8.toNat_ofNat']
  congr 1
  omega
theorem u8_one (bs : List UInt8) : ∀ u ∈ u8s bs, u.oneCell' = true := by
  intro u hu
  unfold u8s at hu
  obtain ⟨b, _, rfl⟩ := List.mem_map.1 hu
  rfl

/-- make([]byte, n). -/
theorem wpList_mk8 {P : Program} (w : World) {ops : Array Oper} {rest : List Oper} {o : Oper} {a : Act} {Q : Exit → Act → World → Prop} {t e : TypeId} (h1 : P.underlying t = some (.slice e))
    (hz : (P.info? e).map (fun i => (i.zero, i.size, i.bytes)) = some (some (.int .u8 0), 1, 1)) (hg : o.guard = none) (l c : Operand) (hop : o.op = Op.makeSlice t l c)
    (B : Nat) (kl kc : IntKind) (L C : Int) (n : Nat) (hl : a.eval l = .int kl L) (hc : a.eval c = .int kc C) (hL : L = (n : Int)) (hC : C = (n : Int)) (b : n ≤ 281474976710656) (hB : B ≤ w.heap.size)
    (hK : ∀ w', Own w' B e 1 (some ⟨w.heap.size, 0, none⟩) n n (u8s (List.replicate n 0)) → w.grownBy w' none → wpList P ops Q rest (a.put o.dst (.slice (some ⟨w.heap.size, 0, none⟩) n n)) w') :
    wpList P ops Q (o :: rest) a w := by
  obtain ⟨i, hi, h2, h3, h4⟩ := info_parts hz
  refine wpList_make_full w hg l c t hop B e i (.int .u8 0) 1 h1 hi h2 h3 kl kc L C n hl hc hL hC (by rw [h4]; omega) (by unfold maxLen; omega) hB fun w' hO hw => hK w' ?_ hw
  have he : (madeCells (Value.int .u8 0).cells (n * 1)).toList = u8s (List.replicate n 0) := by
    unfold madeCells u8s
    apply List.ext_getElem
    · simp
    · intro j h1 h2
      simp [Value.cells, cb8, Nat.mod_one]
  rw [he] at hO
  exact hO

section
variable {w : World} {B : Nat} {e : TypeId} {g n c : Nat}
theorem Own.byteAt {bs : List UInt8} (h : Own w B e 1 (some ⟨g, 0, none⟩) n c (u8s bs)) {j : Nat} (hj : j < bs.length) : w.cell? ⟨g, j, none⟩ = some (.int .u8 (bs[j].toNat : Int)) ∧ w.frozen? ⟨g, j, none⟩ = false := by
  have hl := h.len
  rw [u8s_length] at hl
  refine ⟨?_, World.ownsRow.frozenAt h j⟩
  rw [World.ownsRow.cellAt h j (by omega)]
  simp [u8s, cb8, hj]
theorem Own.setByte {bs : List UInt8} (h : Own w B e 1 (some ⟨g, 0, none⟩) n c (u8s bs)) (j : Nat) (b : UInt8) :
    Own (w.setCell ⟨g, j, none⟩ (cb8 b)) B e 1 (some ⟨g, 0, none⟩) n c (u8s (bs.set j b)) := by
  have := (World.ownsRow.stored h j (cb8 b)).1
  unfold u8s at this ⊢
  rw [List.map_set]
  exact this
end
end Go.Proofs.YtimdogdplphmoaaDoor
