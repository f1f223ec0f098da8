/-
  Texts joined: see the remark at the head of each part.
-/
import Derived.Test.YtjomnccladjpgaaC08
set_option linter.unusedVariables false
set_option linter.unusedSimpArgs false
/-
  A range over a function, told by lists.
-/
namespace Go.Proofs.Ytjomnccladjpgaa
open Go Go.RowKit
set_option linter.unusedVariables false

section
variable {w0 : World} {m0 : Mem} {o0 : OwnM} {G : GD} {pins : List Nat} {S : Nat → A} {a : Act} {w : World} {m : Mem} {o : OwnM}
/-- The world has grown. -/
theorem Inv.grow (I : Inv w0 m0 o0 G pins S a w m o) (x : Obj) : Inv w0 m0 o0 G pins S a (w.alloc x) m o := by
  have hh : ∀ g, g < w.heap.size → (w.alloc x).heap[g]? = w.heap[g]? := fun g hg => (Same.alloc (fun _ => False) w x).block g hg id
  have K : Keep (fun _ => False) m w o m (w.alloc x) o := ⟨.refl _, fun _ _ _ _ => rfl, fun g k h _ => hh g (I.lt g k h), fun _ _ h _ => h, fun _ _ h => h, fun g _ k _ h => ⟨g, k, h⟩, fun g j h => .of_eq (hh g (I.lt g _ h))⟩
  refine ⟨I.same.trans ((Same.alloc (fun _ => False) w x).weaken fun _ h => h.elim), fun b p v h => ?_, I.mono, I.old, I.own, fun g k h => ?_, I.inj, I.pinned, fun s => RepA.keep K (fun _ => id) (fun _ _ _ _ => ⟨id, id⟩) (I.slots s), I.defers, I.tbl, I.wide, I.shps.keep I.pinned K.sh⟩
  · have h1 := I.sat b p v h
    have hlt : b < w.heap.size := by have := World.block_lt_of_cell? w _ h1; simpa using this
    rw [World.cell?_of_block (w := w) (hh b hlt)]
    exact h1
  · have := I.lt g k h
    have h2 := (Same.alloc (fun _ => False) w x).size
    omega
theorem Inv.mem_lt (I : Inv w0 m0 o0 G pins S a w m o) {b p : Nat} {v : Value} (h : m b p = some v) : b < w.heap.size := by
  have := World.block_lt_of_cell? w _ (I.sat b p v h)
  simpa using this
end
/-- What is told of a slot at the head, and holds from then on. -/
def statB : A → Bool
  | .any | .imm _ | .t (.d _) | .t (.agg _) => true
  | .t (.hpt c _) => !(c % 64 == 63)
  | _ => false
theorem stat_of {m : Mem} {w : World} {o oE : OwnM} {S : Nat → A} {s : Nat} {x : A} {v : Value} (hx : statB x = true) (ho : ∀ g c, c % 64 ≠ 63 → o g = some (OB + (OB + c), 0) → oE g = some (OB + (OB + c), 0)) (h : RepA m w o S s x v) : Stat m oE x v := by
  cases x with
  | any => trivial
  | imm l => exact h
  | t x =>
    cases x with
    | d x => exact h
    | agg l => exact h
    | hpt c off =>
      have hc : c % 64 ≠ 63 := by simpa [statB] using hx
      obtain ⟨g, h1, h2⟩ := h
      exact ⟨hc, g, ho g c hc h1, h2⟩
    | _ => cases hx
  | _ => cases hx
/-- The slots behind the loop. -/
def LA (f : Nat → A) (bs : List Nat) (cs : List (List T)) (L : SL) : SL := (HK, .hp f) :: (bs.zip (cs.map A.box) ++ L)
/-- Owners behind the loop. -/
def afO (bs : List Nat) (o o' : OwnM) : OwnM := fun g => match ofY bs o' g with
  | some q => some q
  | none => match o g with
    | some q => if OB2 ≤ q.1 ∨ q.1 ∈ bs then none else some q
    | none => none
theorem afO_iff {bs : List Nat} {o o' : OwnM} {g : Nat} {q : Nat × Nat} : afO bs o o' g = some q → ofY bs o' g = some q ∨ (ofY bs o' g = none ∧ ¬ (OB2 ≤ q.1 ∨ q.1 ∈ bs) ∧ o g = some q) := by
  intro h
  unfold afO at h
  split at h
  · rename_i h1; injection h with h; subst h; exact .inl h1
  · rename_i h1
    split at h
    · split at h
      · cases h
      · injection h with h; subst h; exact .inr ⟨h1, by assumption, by assumption⟩
    · cases h
theorem afO_1 {bs : List Nat} {o o' : OwnM} {g : Nat} {q : Nat × Nat} (h : ofY bs o' g = some q) : afO bs o o' g = some q := by unfold afO; rw [h]
theorem afO_2 {bs : List Nat} {o o' : OwnM} {g : Nat} {q : Nat × Nat} (h1 : ofY bs o' g = none) (h2 : ¬ (OB2 ≤ q.1 ∨ q.1 ∈ bs)) (h : o g = some q) : afO bs o o' g = some q := by unfold afO; rw [h1, h]; simp only; rw [if_neg h2]
/-- Cells of a variable that an iterator has caught. -/
def capC (l : List T) : Prop := ∀ x ∈ l, (∃ d, x = .d d) ∨ ∃ c off, x = .hpt c off ∧ c % 64 ≠ 63
/-- The iterator's contract: what it does with a loop's yield, whatever the loop's record and what was known when it was laid. -/
def Ranges (P : Program) (bs ps : List Nat) (N fn : Nat) (caps : List (List T)) (assign body : Code) (L0 : SL) (f f' : Nat → A) (cs cs' : List (List T)) (b : Bool) : Prop :=
  ∀ (l : Nat) (r : Loop) (mE : Mem) (oE : OwnM), Head bs N r mE oE L0 → r.state = .ready → r.pending = none → r.params = ps.toArray → r.assign = assign → r.body = body →
    ∃ y, FCH P fn (.t (.d (.lit (yv l))) :: caps.map A.imt) [] [] (hz f (zA l (.loop r) mE oE cs)) (hz f' (zA l (.loop (if b then r else { r with state := .done, pending := some .ret })) mE oE cs')) y
/-- The call of the function that is ranged over, out of the frame that ranges. -/
theorem range_call {P : Program} {bs ps : List Nat} {N fn g fnn : Nat} {caps : List (List T)} {assign body : Code} {L0 : SL} {f f' : Nat → A} {cs cs' : List (List T)} {b : Bool} {w0 : World} {m0 : Mem} {o0 : OwnM} {G : GD} {pins : List Nat} {L : SL} {a : Act} {w : World} {m : Mem} {o : OwnM}
    (hNa : a.tmps.size = N) (hlo : Low (gt L)) (I : Inv w0 m0 o0 G pins (hx (gt L)) a w m o) (hk : gt L HK = .hp f) (hf : NC f) (hcl : cs.length = bs.length) (hcc : ∀ c ∈ cs, nzC c) (hbn : bs.Nodup) (hbN : ∀ b ∈ bs, b < N)
    (hbx : ∀ (i s : Nat), bs[i]? = some s → ∃ c, cs[i]? = some c ∧ gt L s = .box c) (hg : gt L g = .cl fn caps) (hcaps : ∀ l ∈ caps, capC l)
    (hL0 : ∀ s, gt L0 s = .any ∨ (s < OB ∧ s ∉ bs ∧ statB (gt L s) = true ∧ gt L0 s = gt L s) ∨ (OB ≤ s ∧ s < HK ∧ gt L s = .free ∧ gt L0 s = .free)) (hit : Ranges P bs ps N fn caps assign body L0 f f' cs cs' b) :
    ∃ ptrs : Array Value, a.tmps.getD g undef = .func (.func fn) #[] ptrs ∧
      ∀ r : Loop, r = { state := .ready, pending := none, fn := fnn, tmps := a.tmps, params := ps.toArray, assign := assign, body := body, defers := w.heap.size } →
      Head bs N r m (toY bs (w.heap.size + 1) o) L0 ∧ Calls P fn (#[yv (w.heap.size + 1)] ++ ptrs) ((w.alloc (.deferred (some []))).alloc (.loop r)) fun e w' => ∃ (u : Value) (m' : Mem) (o' : OwnM) (S' : Nat → A) (a' : Act), e = .returned u ∧
        Inv ((w.alloc (.deferred (some []))).alloc (.loop r)) m (toY bs (w.heap.size + 1) o) ⟨fun g => toY bs (w.heap.size + 1) o g ≠ none, []⟩ [] S' a' w' m' o' ∧
        (∀ c, S' (OB + (OB + c)) = san (hz f' (zA (w.heap.size + 1) (.loop (if b then r else { r with state := .done, pending := some .ret })) m (toY bs (w.heap.size + 1) o) cs') c)) := by
  have hN : N ≤ OB := by rw [← hNa]; exact I.wide
  have hbO : ∀ b ∈ bs, b < OB := fun b h => Nat.lt_of_lt_of_le (hbN b h) hN
  have hcl0 := I.slots g
  rw [hx_of hg (by simp)] at hcl0
  obtain ⟨ptrs, hv, hpsz, hpt⟩ := hcl0
  refine ⟨ptrs, hv, fun r hr => ?_⟩
  have I1 := (I.grow (.deferred (some []))).grow (.loop r)
  have hol : o (w.heap.size + 1) = none := by
    cases hq : o (w.heap.size + 1) with
    | none => rfl
    | some q => have := I.lt _ _ hq; omega
  have hml : ∀ p, m (w.heap.size + 1) p = none := fun p => by
    cases hq : m (w.heap.size + 1) p with
    | none => rfl
    | some v => have := I.mem_lt hq; omega
  have hz2 : ∀ g c k, c % 64 = 63 → o g ≠ some (OB + (OB + c), k) := fun g c k hc => by
    have := I.slots (OB + (OB + c))
    rw [hx_hp hlo hk, hf.z c hc] at this
    exact this g k
  have V := VW.toY hbn hbO hol hz2
  have hu : ((w.alloc (.deferred (some []))).alloc (.loop r)).heap[w.heap.size + 1]? = some (.loop r) := by
    have := World.alloc_heap_new (w.alloc (.deferred (some []))) (.loop r)
    rw [World.size_alloc] at this
    exact this
  have hty := fun g q => toY_iff (bs := bs) (l := w.heap.size + 1) (o := o) hbO hol (g := g) (q := q)
  have hH : Head bs N r m (toY bs (w.heap.size + 1) o) L0 := by
    refine ⟨by rw [hr]; exact hNa, fun s hs hsb => ?_, fun i s hi => ?_, fun s hs => ?_⟩
    · rcases hL0 s with e | ⟨_, _, h1, h2⟩ | ⟨h, _⟩
      · rw [e]; trivial
      rotate_left
      · omega
      · rw [h2, hr]
        have h := I.slots s
        rw [hx_lo (by unfold OB OB2 at *; omega)] at h
        exact stat_of h1 (fun g c hc => (V.hh g c 0 hc).1) h
    · obtain ⟨c, h1, h2⟩ := hbx i s hi
      have h := I.slots s
      rw [hx_of h2 (by simp)] at h
      obtain ⟨g, h3, h4⟩ := h
      refine ⟨g, by rw [hr]; exact h3 (hbO s (List.mem_of_getElem? hi)), (V.hb i s g 0 hi).1 h4.1⟩
    · rcases hL0 s with e | ⟨h, _⟩ | ⟨_, h1, _, h2⟩
      · exact .inl e
      · omega
      · exact .inr ⟨h2, h1⟩
  obtain ⟨y, hc⟩ := hit (w.heap.size + 1) r m (toY bs (w.heap.size + 1) o) hH (by rw [hr]) (by rw [hr]) (by rw [hr]) (by rw [hr]) (by rw [hr])
  refine ⟨hH, (hc _ m (toY bs (w.heap.size + 1) o) (#[yv (w.heap.size + 1)] ++ ptrs) I1.sat (I.tbl.trans I.mono) (fun g q h => ?_) (fun g g' q h h' => ?_) (by rw [Array.size_append, hpsz, List.length_cons, List.length_map, Nat.add_comm]; rfl) fun s => ?_).mono ?_⟩
  · rcases (hty g q).1 h with ⟨rfl, _⟩ | ⟨_, h⟩ | ⟨_, _, _, _, h⟩
    · rw [World.size_alloc, World.size_alloc]; omega
    · exact I1.lt g _ h
    · exact I1.lt g _ h
  · rcases (hty g q).1 h with ⟨e1, e2⟩ | ⟨e2, h⟩ | ⟨i, b1, e1, e2, h⟩ <;> rcases (hty g' q).1 h' with ⟨e1', e2'⟩ | ⟨e2', h'⟩ | ⟨i', b1', e1', e2', h'⟩
    · rw [e1, e1']
    · rw [e2] at h'; exact absurd h' (hz2 g' _ 0 (c63_mod 0))
    · rw [e2] at e2'
      have e2' : OB + (OB + cd 63 0) = OB + (OB + cd 63 (i' + 1)) := e2'
      unfold cd at e2'
      omega
    · rw [e2'] at h; exact absurd h (hz2 g _ 0 (c63_mod 0))
    · exact I.inj g g' q h h'
    · obtain ⟨q1, q2⟩ := q
      have e2' : q1 = _ := e2'
      subst e2'
      exact absurd h (hz2 g _ q2 (c63_mod _))
    · rw [e2'] at e2
      have e2 : OB + (OB + cd 63 0) = OB + (OB + cd 63 (i + 1)) := e2
      unfold cd at e2
      omega
    · obtain ⟨q1, q2⟩ := q
      have e2 : q1 = _ := e2
      subst e2
      exact absurd h' (hz2 g' _ q2 (c63_mod _))
    · rw [e2] at e2'
      have : i = i' := by unfold cd at e2'; omega
      subst this
      have a1 := posN_get e1
      rw [posN_get e1'] at a1
      injection a1 with a1
      subst a1
      exact I.inj g g' _ h h'
  · rcases Nat.lt_or_ge s OB with h1 | h1
    · have e : ∀ F, argH (.t (.d (.lit (yv (w.heap.size + 1)))) :: caps.map A.imt) [] F s = (A.t (.d (.lit (yv (w.heap.size + 1)))) :: caps.map A.imt).getD s .any := fun F => by unfold argH; rw [if_pos h1]
      rw [e]
      cases s with
      | zero =>
        have : (#[yv (w.heap.size + 1)] ++ ptrs).getD 0 undef = yv (w.heap.size + 1) := by
          rw [Array.getD_eq_getD_getElem?, Array.getElem?_append_left (by simp)]
          rfl
        rw [this]
        exact .lit _ rfl
      | succ i =>
        have e2 : (A.t (.d (.lit (yv (w.heap.size + 1)))) :: caps.map A.imt).getD (i + 1) .any = (caps.map A.imt).getD i .any := rfl
        rw [e2, List.getD_eq_getElem?_getD, List.getElem?_map]
        cases hi : caps[i]? with
        | none => trivial
        | some l =>
          obtain ⟨g1, q1, q2⟩ := hpt i l hi
          have : (#[yv (w.heap.size + 1)] ++ ptrs).getD (i + 1) undef = .pointer (some ⟨g1, 0, none⟩) := by
            rw [Array.getD_eq_getD_getElem?, Array.getElem?_append_right (by simp)]
            simp [q1]
          rw [this]
          refine ⟨g1, rfl, fun j x hj => ?_⟩
          obtain ⟨u, q3, q4⟩ := q2 j x hj
          refine ⟨u, q3, ?_⟩
          rcases hcaps l (List.mem_of_getElem? hi) x (List.mem_of_getElem? hj) with ⟨d, rfl⟩ | ⟨c, off, rfl, hc⟩
          · exact q4
          · obtain ⟨g2, q5, q6⟩ := q4
            exact ⟨g2, (V.hh g2 c 0 hc).1 q5, q6⟩
    · rcases Nat.lt_or_ge s OB2 with h2 | h2
      · have e : ∀ F, argH (.t (.d (.lit (yv (w.heap.size + 1)))) :: caps.map A.imt) [] F s = .free := fun F => by
          unfold argH
          rw [if_neg (by omega), if_neg (by omega)]
          rfl
        rw [e]
        intro g k h
        rcases (hty g _).1 h with ⟨_, h⟩ | ⟨h, _⟩ | ⟨i, _, _, h, _⟩
        · injection h with h _
          rw [h, ← ob2_eq] at h2
          omega
        · have h : OB2 ≤ s := h
          omega
        · have h : s = _ := h
          rw [h, ← ob2_eq] at h2
          omega
      · obtain ⟨c, rfl⟩ : ∃ c, s = OB + (OB + c) := ⟨s - OB2, by rw [← ob2_eq]; omega⟩
        rw [argH_h]
        refine view_rep hbn hbO (S := hx (gt L)) (vs := fun _ => undef) hf hcl hcc hol hml hu (.refl _) (fun g c h => h) (fun c => ?_) (fun i s hi => ?_) c _
        · have h := I1.slots (OB + (OB + c))
          rw [hx_hp hlo hk] at h
          exact ⟨_, h⟩
        · obtain ⟨c', q3, q4⟩ := hbx i s hi
          have h7 := I1.slots s
          rw [hx_of q4 (by simp)] at h7
          exact ⟨c', _, q3, h7⟩
  · rintro e w' ⟨u, m', o', S', a', ρ, h1, h2, _, _, h5, _⟩
    exact ⟨u, m', o', S', a', h1, h2, h5⟩
/-- Behind the loop. -/
theorem range_after {bs : List Nat} {N : Nat} {L0 : SL} {f' : Nat → A} {cs' : List (List T)} {w0 : World} {m0 : Mem} {o0 : OwnM} {G : GD} {pins : List Nat} {S : Nat → A} {a : Act} {w : World} {m : Mem} {o : OwnM} {r : Loop} {u x : Obj}
    (hNa : a.tmps.size = N) (I : Inv w0 m0 o0 G pins S a w m o) (hz2 : ∀ g c k, c % 64 = 63 → o g ≠ some (OB + (OB + c), k)) (hf' : NC f') (hcl' : cs'.length = bs.length) (hcc' : ∀ c ∈ cs', nzC c) (hbn : bs.Nodup) (hbO : ∀ b ∈ bs, b < OB)
    (hH : Head bs N r m (toY bs (w.heap.size + 1) o) L0) (hfr : ∀ s, OB ≤ s → gt L0 s = .free → ∀ g k, o g ≠ some (s, k)) (hr : r.tmps = a.tmps) {S' : Nat → A} {a' : Act} {w3 : World} {m' : Mem} {o' : OwnM}
    (J : Inv ((w.alloc (.deferred (some []))).alloc (.loop r)) m (toY bs (w.heap.size + 1) o) ⟨fun g => toY bs (w.heap.size + 1) o g ≠ none, []⟩ [] S' a' w3 m' o') (hu : ∀ cs E q, u ≠ .cells cs E q)
    (hS' : ∀ c, S' (OB + (OB + c)) = san (hz f' (zA (w.heap.size + 1) u m (toY bs (w.heap.size + 1) o) cs') c)) (mk : Deferred) :
    Inv w0 m0 o0 ⟨G.p, mk :: G.ds⟩ pins (hx (gt (LA f' bs cs' L0))) { a with defers := mk :: a.defers } (w3.putObj (w.heap.size + 1) x) m' (afO bs o o') ∧ Low (gt (LA f' bs cs' L0)) ∧ w3.heap[w.heap.size + 1]? = some u ∧ afO bs o o' w.heap.size = none ∧ w3.heap[w.heap.size]? = some (.deferred (some [])) := by
  have hol : o (w.heap.size + 1) = none := by
    cases hq : o (w.heap.size + 1) with
    | none => rfl
    | some q => have := I.lt _ _ hq; omega
  have V := VW.toY hbn hbO hol hz2
  have hty := fun g q => toY_iff (bs := bs) (l := w.heap.size + 1) (o := o) hbO hol (g := g) (q := q)
  obtain ⟨k1, k2, k3, _, _⟩ : RepA m' w3 o' S' (OB + (OB + cd 63 0)) (.rcd (w.heap.size + 1) u m (toY bs (w.heap.size + 1) o)) (a'.tmps.getD (OB + (OB + cd 63 0)) undef) := by
    have h := J.slots (OB + (OB + cd 63 0))
    rw [hS', hz_z, zA_0] at h
    exact h
  have hw1 : ∀ g, g < w.heap.size → ((w.alloc (.deferred (some []))).alloc (.loop r)).heap[g]? = w.heap[g]? := fun g hg => by
    have h1 := (Same.alloc (fun _ => False) w (.deferred (some []))).block g hg id
    have h2 := (Same.alloc (fun _ => False) (w.alloc (.deferred (some []))) (.loop r)).block g (by rw [World.size_alloc]; omega) id
    exact h2.trans h1
  have hs1 : ((w.alloc (.deferred (some []))).alloc (.loop r)).heap.size = w.heap.size + 2 := by rw [World.size_alloc, World.size_alloc]
  have hs3 : w.heap.size + 2 ≤ w3.heap.size := by rw [← hs1]; exact J.same.size
  have ho1 : ∀ g, g ≠ w.heap.size + 1 → o g = none → toY bs (w.heap.size + 1) o g = none := fun g hg h => by
    cases hq : toY bs (w.heap.size + 1) o g with
    | none => rfl
    | some q =>
      rcases (hty g q).1 hq with ⟨e, _⟩ | ⟨_, e⟩ | ⟨_, _, _, _, e⟩
      · exact absurd e hg
      · rw [h] at e; cases e
      · rw [h] at e; cases e
  have ho' : ∀ g, g < w.heap.size + 2 → toY bs (w.heap.size + 1) o g = none → o' g = none := fun g hg h => by
    cases hq : o' g with
    | none => rfl
    | some q =>
      rcases J.own g q hq with e | e
      · exact absurd h e
      · rw [hs1] at e; omega
  have hof : ∀ g, o' g = none → ofY bs o' g = none := fun g h => by
    cases hq : ofY bs o' g with
    | none => rfl
    | some q => rcases ofY_iff.1 hq with ⟨_, _, _, e⟩ | ⟨_, _, e⟩ <;> (rw [h] at e; cases e)
  have V2 := VW.ofY (o := o') hbn hbO
  have hpt : ∀ g c, c % 64 ≠ 63 → o g = some (OB + (OB + c), 0) → afO bs o o' g = some (OB + (OB + c), 0) := fun g c hc h => afO_1 ((V2.hh g c 0 hc).2 (J.pinned _ (.inr (Nat.le_add_right _ _)) g ((V.hh g c 0 hc).1 h)))
  have hpb : ∀ i b g, bs[i]? = some b → o g = some (b, 0) → o' g = some (OB + (OB + cd 63 (i + 1)), 0) := fun i b g hi h => J.pinned _ (.inr (Nat.le_add_right _ _)) g ((V.hb i b g 0 hi).1 h)
  have hres : ∀ g q, o g = some q → ¬ (OB2 ≤ q.1 ∨ q.1 ∈ bs) → toY bs (w.heap.size + 1) o g = none := fun g q h hq => by
    cases hy : toY bs (w.heap.size + 1) o g with
    | none => rfl
    | some q' =>
      rcases (hty g q').1 hy with ⟨e, _⟩ | ⟨h1, e⟩ | ⟨i, b, h1, _, e⟩
      · rw [e, hol] at h; cases h
      · rw [h] at e; injection e with e; rw [e] at hq; exact absurd (.inl h1) hq
      · rw [h] at e; injection e with e; rw [e] at hq; exact absurd (.inr (List.mem_of_getElem? (posN_get h1))) hq
  have hkeep : ∀ g q, o g = some q → ¬ (OB2 ≤ q.1 ∨ q.1 ∈ bs) → afO bs o o' g = some q := fun g q h hq =>
    afO_2 (hof g (ho' g (by have := I.lt g q h; omega) (hres g q h hq))) hq h
  have hne : ∀ g, g < w.heap.size → (w3.putObj (w.heap.size + 1) x).heap[g]? = w3.heap[g]? := fun g hg => World.putObj_heap_other (by omega)
  have hblk : ∀ g, g < w.heap.size → toY bs (w.heap.size + 1) o g = none → (w3.putObj (w.heap.size + 1) x).heap[g]? = w.heap[g]? := fun g hg h => by
    rw [hne g hg, J.same.block g (by rw [hs1]; omega) fun e => e h, hw1 g hg]
  have hS : Same (fun g => o g ≠ none) w (w3.putObj (w.heap.size + 1) x) := by
    refine ⟨J.same.os, J.same.tape, J.same.output, by rw [World.putObj_size]; omega, fun k hk hn => hblk k hk (ho1 k (by omega) (Classical.byContradiction hn)), fun k => ?_⟩
    rcases Nat.lt_or_ge k w.heap.size with h1 | h1
    · exact ((ShpAt.of_eq (hw1 k h1)).w.trans (J.same.shape k)).trans (ShpAt.of_eq (hne k h1)).w
    · intro cs E q h
      rw [Array.getElem?_eq_none h1] at h
      cases h
  have key : ∀ g, o g ≠ none → G.p g ∨ w0.heap.size ≤ g := fun g h => by
    cases hq : o g with
    | none => exact absurd hq h
    | some l => exact I.own g l hq
  have hw0 := I.same.size
  have hsh : ∀ g j, o g = some (OB + j, 0) → ShpAt w (w3.putObj (w.heap.size + 1) x) g := by
    intro g j h
    have hg := I.lt g _ h
    by_cases h2 : OB2 ≤ OB + j
    · obtain ⟨c, rfl⟩ : ∃ c, j = OB + c := ⟨j - OB, by unfold OB OB2 at *; omega⟩
      have hc : c % 64 ≠ 63 := fun e => hz2 g c 0 e h
      exact ((ShpAt.of_eq (hw1 g hg)).trans (J.shps g _ ((V.hh g c 0 hc).1 h)).2).trans (.of_eq (hne g hg))
    · exact .of_eq (hblk g hg (hres g _ h (fun e => e.elim h2 fun e => by have := hbO _ e; have this : OB + j < OB := this; omega)))
  have K1 : Keep (fun l => l.1 = OB + (OB + cd 63 0)) m' w3 o' m' (w3.putObj (w.heap.size + 1) x) o' := by
    have hgl : ∀ g q, o' g = some q → ¬ q.1 = OB + (OB + cd 63 0) → g ≠ w.heap.size + 1 := fun g q h hq e => by
      subst e
      rw [k1] at h
      injection h with h
      exact hq (by rw [← h])
    refine ⟨.refl _, fun _ _ _ _ => rfl, fun g q h hq => World.putObj_heap_other (hgl g q h hq), fun _ _ h _ => h, fun _ _ h => h, fun g _ k _ h => ⟨g, k, h⟩, fun g j h => ?_⟩
    by_cases e : g = w.heap.size + 1
    · subst e
      intro cs E q h
      rw [k3] at h
      injection h with h
      exact absurd h (hu _ _ _)
    · exact .of_eq (World.putObj_heap_other e)
  have gLA : ∀ s, gt (LA f' bs cs' L0) s = if s = HK then .hp f' else match posN bs s with | some i => (cs'.map A.box).getD i .any | none => gt L0 s := by
    intro s
    show gt ((HK, .hp f') :: (bs.zip (cs'.map A.box) ++ L0)) s = _
    rw [gt_cons, upd, gt_zip _ _ _ _ (by rw [List.length_map, hcl'])]
    rfl
  have hlow : Low (gt (LA f' bs cs' L0)) := by
    intro t ht
    rw [gLA, if_neg (by unfold HK OB2 at *; omega)]
    cases hq : posN bs t with
    | none => exact (hH.lo t (by unfold OB OB2 at *; omega)).resolve_right fun h => by have := h.2; unfold HK OB2 at *; omega
    | some i => have := hbO _ (List.mem_of_getElem? (posN_get hq)); unfold OB OB2 at *; omega
  have hoD : o w.heap.size = none := by
    cases hq : o w.heap.size with
    | none => rfl
    | some q => have := I.lt _ _ hq; omega
  have hoD' : o' w.heap.size = none := ho' _ (by omega) (ho1 _ (by omega) hoD)
  have hoD2 : afO bs o o' w.heap.size = none := by
    cases hq : afO bs o o' w.heap.size with
    | none => rfl
    | some q =>
      rcases afO_iff hq with h | ⟨_, _, h⟩
      · rw [hof _ hoD'] at h; cases h
      · rw [hoD] at h; cases h
  have hD : w3.heap[w.heap.size]? = some (.deferred (some [])) := by
    rw [J.same.block _ (by rw [hs1]; omega) fun e => e (ho1 _ (by omega) hoD)]
    have h2 := (Same.alloc (fun _ => False) (w.alloc (.deferred (some []))) (.loop r)).block w.heap.size (by rw [World.size_alloc]; omega) id
    rw [h2]
    exact World.alloc_heap_new w _
  refine ⟨⟨I.same.trans (hS.weaken key), fun b p v h => ?_, I.mono.trans J.mono, fun b hb hn => ?_, fun g q h => ?_, fun g q h => ?_, fun g g' q h h' => ?_, fun s hs g h => ?_, fun s => ?_, by show mk :: a.defers = _; rw [I.defers], I.tbl, I.wide, I.shps.keep I.pinned hsh⟩, hlow, k3, hoD2, hD⟩
  · have hb : b ≠ w.heap.size + 1 := fun e => by subst e; rw [k2] at h; cases h
    have := J.sat b p v h
    unfold World.cell? at this ⊢
    rw [World.putObj_heap_other hb]
    exact this
  · have hob : o b = none := by
      cases hq : o b with
      | none => rfl
      | some q => exact ((I.own b q hq).elim (fun e => absurd e hn) fun e => by omega)
    rw [J.old b (by rw [hs1]; omega) fun e => e (ho1 b (by omega) hob)]
    exact I.old b hb hn
  · have k : ∀ q', o' g = some q' → G.p g ∨ w0.heap.size ≤ g := fun q' h => by
      rcases J.own g q' h with e | e
      · cases hq : o g with
        | none =>
          by_cases e2 : g = w.heap.size + 1
          · exact .inr (by omega)
          · exact absurd (ho1 g e2 hq) e
        | some q => exact I.own g q hq
      · rw [hs1] at e; exact .inr (by omega)
    rcases afO_iff h with h | ⟨_, _, h⟩
    · rcases ofY_iff.1 h with ⟨_, _, _, h⟩ | ⟨_, _, h⟩ <;> exact k _ h
    · exact I.own g q h
  · rw [World.putObj_size]
    rcases afO_iff h with h | ⟨_, _, h⟩
    · rcases ofY_iff.1 h with ⟨_, _, _, h⟩ | ⟨_, _, h⟩ <;> exact J.lt g _ h
    · have := I.lt g q h; omega
  · have hc : ∀ g, ofY bs o' g = some q → OB2 ≤ q.1 ∨ q.1 ∈ bs := fun g h => by
      rcases ofY_iff.1 h with ⟨c, _, e, _⟩ | ⟨i, e, _⟩
      · exact .inl (by rw [e, ← ob2_eq]; exact Nat.le_add_right _ _)
      · exact .inr (List.mem_of_getElem? e)
    rcases afO_iff h with h | ⟨_, h1, h⟩ <;> rcases afO_iff h' with h' | ⟨_, h1', h'⟩
    · rcases ofY_iff.1 h with ⟨c, c1, c2, h⟩ | ⟨i, c2, h⟩ <;> rcases ofY_iff.1 h' with ⟨c', c1', c2', h'⟩ | ⟨i', c2', h'⟩
      · exact J.inj g g' q h h'
      · have := hbO _ (List.mem_of_getElem? c2'); omega
      · have := hbO _ (List.mem_of_getElem? c2); omega
      · have e1 := posN_of hbn c2
        rw [posN_of hbn c2'] at e1
        injection e1 with e1
        subst e1
        exact J.inj g g' _ h h'
    · exact absurd (hc g h) h1'
    · exact absurd (hc g' h') h1
    · exact I.inj g g' q h h'
  · have h1 := I.pinned s hs g h
    by_cases h2 : OB2 ≤ s
    · obtain ⟨c, rfl⟩ : ∃ c, s = OB + (OB + c) := ⟨s - OB2, by rw [← ob2_eq]; omega⟩
      exact hpt g c (fun e => hz2 g c 0 e h1) h1
    · by_cases h3 : s ∈ bs
      · obtain ⟨i, hi⟩ := List.getElem?_of_mem h3
        exact afO_1 ((V2.hb i s g 0 hi).2 (hpb i s g hi h1))
      · exact hkeep g _ h1 (fun e => e.elim h2 h3)
  · show RepA m' _ _ _ s _ (a.tmps.getD s undef)
    have hh2 : ∀ g c, c % 64 ≠ 63 → o' g = some (OB + (OB + c), 0) → afO bs o o' g = some (OB + (OB + c), 0) := fun g c hc h => afO_1 ((V2.hh g c 0 hc).2 h)
    rcases Nat.lt_or_ge s OB2 with h2 | h2
    · rw [hx_lo h2, gLA]
      by_cases e : s = HK
      · rw [if_pos e]; trivial
      · rw [if_neg e]
        cases hb : posN bs s with
        | none =>
          simp only
          by_cases hs : s < OB
          · have hsb : s ∉ bs := fun hm => by
              obtain ⟨i, hi⟩ := List.getElem?_of_mem hm
              rw [posN_of hbn hi] at hb
              cases hb
            have h := hH.st s hs hsb
            rw [hr] at h
            refine h.rep J.mono fun g c hc h => hh2 g c hc (J.pinned _ (.inr (Nat.le_add_right _ _)) g h)
          · rcases hH.lo s (by omega) with e0 | ⟨e0, e1⟩
            · rw [e0]; trivial
            · rw [e0]
              intro g k h
              rcases afO_iff h with h | ⟨_, _, h⟩
              · rcases ofY_iff.1 h with ⟨c, _, q1, _⟩ | ⟨i, q1, _⟩
                · have q1 : s = OB + (OB + c) := q1
                  unfold HK at e1; unfold OB at q1; omega
                · exact hs (hbO s (List.mem_of_getElem? q1))
              · exact hfr s (by omega) e0 g k h
        | some i =>
          simp only
          have hib := posN_get hb
          have hi : i < bs.length := (List.getElem?_eq_some_iff.1 hib).1
          have hic : i < cs'.length := by omega
          obtain ⟨g0, q1, q2⟩ := hH.bx i s hib
          have hbx := J.slots (OB + (OB + cd 63 (i + 1)))
          rw [hS', hz_z, zA_s, List.getElem?_eq_getElem hic] at hbx
          have hbx : RepA m' w3 o' S' (OB + (OB + cd 63 (i + 1))) (.box cs'[i]) (a'.tmps.getD (OB + (OB + cd 63 (i + 1))) undef) := hbx
          have hbx := RepA.keep (S' := S') K1 (fun j => by show ¬ (OB + (OB + cd 63 (i + 1)) = OB + (OB + cd 63 0)); unfold cd; omega) (fun b off e _ => by cases e) hbx
          obtain ⟨g, _, q3⟩ := hbx
          have : g = g0 := J.inj g g0 _ q3.1 (J.pinned _ (.inr (Nat.le_add_right _ _)) g0 q2)
          subst this
          have e2 : (cs'.map A.box).getD i .any = .box cs'[i] := by
            rw [List.getD_eq_getElem?_getD, List.getElem?_map, List.getElem?_eq_getElem hic]
            rfl
          rw [e2, ← hr, q1]
          exact ⟨g, fun _ => rfl, nz_box hh2 (fun g k h => afO_1 ((V2.hb i s g k hib).2 h)) (hcc' _ (List.getElem_mem _)) q3⟩
    · obtain ⟨c, rfl⟩ : ∃ c, s = OB + (OB + c) := ⟨s - OB2, by rw [← ob2_eq]; omega⟩
      have hk : gt (LA f' bs cs' L0) HK = .hp f' := by rw [gLA, if_pos rfl]
      rw [hx_hp hlow hk]
      have hback : ∀ g k, afO bs o o' g = some (OB + (OB + c), k) → c % 64 ≠ 63 ∧ o' g = some (OB + (OB + c), k) := fun g k h => by
        rcases afO_iff h with h | ⟨_, h1, h⟩
        · rcases ofY_iff.1 h with ⟨c', h1, h3, h4⟩ | ⟨i, h1, _⟩
          · have h3 : OB + (OB + c) = OB + (OB + c') := h3
            have : c = c' := by omega
            subst this
            exact ⟨h1, h4⟩
          · have := hbO _ (List.mem_of_getElem? h1)
            have this : OB + (OB + c) < OB := this
            omega
        · exact absurd (.inl h2) h1
      by_cases hc : c % 64 = 63
      · rw [hf'.z c hc]
        exact fun g k h => (hback g k h).1 hc
      · have h := J.slots (OB + (OB + c))
        rw [hS', hz_n hc] at h
        have hnr : ∀ b off, san (f' c) ≠ .ref b off := fun b off e => by cases hq : f' c <;> rw [hq] at e <;> cases e
        have hnc : ¬ (OB + (OB + c) = OB + (OB + cd 63 0)) := fun e => by
          have e1 : c = cd 63 0 := by omega
          exact hc (by rw [e1]; exact c63_mod 0)
        have h := RepA.keep (S' := S') K1 (fun j => hnc) (fun b off e _ => absurd e (hnr b off)) h
        rcases san_cases (f' c) with ⟨l1, hl1⟩ | hl1 | hl1 | ⟨l1, hl1⟩ | ⟨b, u, mE, oE, hl1⟩
        · have hn := hf'.c c l1 hl1
          rw [hl1] at h ⊢
          obtain ⟨g, _, h3⟩ := h
          exact ⟨g, fun h => absurd h (by omega), nz_box hh2 (fun g k h => afO_1 ((V2.hh g c k hc).2 h)) hn h3⟩
        · rw [hl1] at h ⊢
          exact fun g k e => h g k (hback g k e).2
        · rw [hl1]; trivial
        · rw [hl1] at h ⊢
          obtain ⟨g, q1, q2⟩ := h
          exact ⟨g, hh2 g c hc q1, q2⟩
        · exact absurd hl1 (hf'.r c _ _ _ _)
section
variable {w0 : World} {m0 : Mem} {o0 : OwnM} {G : GD} {pins : List Nat} {S : Nat → A} {a : Act} {w : World} {m : Mem} {o : OwnM}
theorem Inv.nodk (I : Inv w0 m0 o0 G (DK :: pins) S a w m o) : Inv w0 m0 o0 G pins S a w m o :=
  ⟨I.same, I.sat, I.mono, I.old, I.own, I.lt, I.inj, fun s hs g h => I.pinned s (hs.imp (List.mem_cons_of_mem _) id) g h, I.slots, I.defers, I.tbl, I.wide, fun g j h => ⟨by
    rcases (I.shps g j h).1 with h1 | h1
    · rcases List.mem_cons.1 h1 with h1 | h1
      · exact .inr (by rw [h1]; decide)
      · exact .inl h1
    · exact .inr h1, (I.shps g j h).2⟩⟩
theorem Inv.dk (I : Inv w0 m0 o0 G pins S a w m o) : Inv w0 m0 o0 G (DK :: pins) S a w m o :=
  ⟨I.same, I.sat, I.mono, I.old, I.own, I.lt, I.inj, fun s hs g h => I.pinned s (by
    rcases hs with hs | hs
    · rcases List.mem_cons.1 hs with hs | hs
      · exact .inr (by rw [hs]; decide)
      · exact .inl hs
    · exact .inr hs) g h, I.slots, I.defers, I.tbl, I.wide, fun g j h => ⟨(I.shps g j h).1.imp (List.mem_cons_of_mem _) id, (I.shps g j h).2⟩⟩
end
/-- Code, and what is behind it: told as one. -/
def SeqOK (P : Program) (pins : List Nat) (N : Nat) (x y : Code) (Q : Exit → SL → Prop) (L : SL) : Prop :=
  ∀ (Fe : Fence) (ne : Nat), WideP pins Fe → ∀ (w0 : World) (m0 : Mem) (o0 : OwnM) (G : GD) (a : Act) (w : World), St w0 m0 o0 G pins N L a w → x.wpIn Fe ne P (Exit.then (y.wpIn Fe ne P (fun e a' w' => ∃ L', Q e L' ∧ StX e w0 m0 o0 G pins N L' a' w')) (fun e a' w' => ∃ L', Q e L' ∧ StX e w0 m0 o0 G pins N L' a' w')) a w
theorem SeqOK.ok {P : Program} {pins : List Nat} {N : Nat} {x y : Code} {Q : Exit → SL → Prop} {L : SL} (h : SeqOK P pins N x y Q L) : CodeOK P pins N (.seq x y) Q L :=
  fun Fe ne hw w0 m0 o0 G a w hS => wpIn_seq (h Fe ne hw w0 m0 o0 G a w hS)
/-- Code ahead of what is told with what is behind it. -/
theorem c_seqR {P : Program} {pins : List Nat} {N : Nat} {x y z : Code} {Q : Exit → SL → Prop} {L : SL} (h : CodeOK P pins N x (thenQ (SeqOK P pins N y z Q) Q) L) : CodeOK P pins N (.seq (.seq x y) z) Q L := by
  intro Fe ne hF w0 m0 o0 G a w hS
  refine wpIn_seq (wpIn_seq (wpIn_mono (h Fe ne hF w0 m0 o0 G a w hS) ?_))
  rintro e a' w' ⟨L', hq, hS'⟩
  cases e <;> first | exact hq Fe ne hF w0 m0 o0 G a' w' hS' | exact ⟨L', hq, hS'⟩
/-- A range over a function, and what is behind it up to the function's end. -/
theorem c_range {P : Program} {pins : List Nat} (hp : DK ∉ pins) {N i g fn : Nat} {bs ps : List Nat} {caps : List (List T)} {assign body rest : Code} {Q : Exit → SL → Prop} {L L0 : SL} {f f' : Nat → A} {cs cs' : List (List T)} {b : Bool}
    (hN : N ≤ OB) (hk : gt L HK = .hp f) (hf : NC f) (hf' : NC f') (hcl : cs.length = bs.length) (hcl' : cs'.length = bs.length) (hcc : ∀ c ∈ cs, nzC c) (hcc' : ∀ c ∈ cs', nzC c) (hbn : bs.Nodup) (hbN : ∀ b ∈ bs, b < N)
    (hbx : ∀ (i s : Nat), bs[i]? = some s → ∃ c, cs[i]? = some c ∧ gt L s = .box c) (hg : gt L g = .cl fn caps) (hcaps : ∀ l ∈ caps, capC l)
    (hL0 : ∀ s, gt L0 s = .any ∨ (s < OB ∧ s ∉ bs ∧ statB (gt L s) = true ∧ gt L0 s = gt L s) ∨ (OB ≤ s ∧ s < HK ∧ gt L s = .free ∧ gt L0 s = .free))
    {F : Func} (hfn : P.funcs[fn]? = some F) (hbody : F.body.isNone = false) (hname : (F.name == "runtime.NumGoroutine") = false)
    (hit : Ranges P bs ps N fn caps assign body L0 f f' cs cs' b)
    (hret : b = false → Q .ret (LA f' bs cs' L0)) (hrest : b = true → CodeOK P pins N rest (fun e L2 => e = .ret ∧ Q .ret L2) (LA f' bs cs' L0)) :
    SeqOK P (DK :: pins) N (.block i (.rangeFunc (.tmp g) ps.toArray assign body)) rest Q L := by
  intro Fe ne hw w0 m0 o0 G a w hS
  have hFe := hw.out (by simp)
  subst hFe
  obtain ⟨hNa, hlo, m, o, I⟩ := hS
  have hbO : ∀ b ∈ bs, b < OB := fun b h => Nat.lt_of_lt_of_le (hbN b h) hN
  have hz2 : ∀ g c k, c % 64 = 63 → o g ≠ some (OB + (OB + c), k) := fun g c k hc => by
    have := I.slots (OB + (OB + c))
    rw [hx_hp hlo hk, hf.z c hc] at this
    exact this g k
  have hol : o (w.heap.size + 1) = none := by
    cases hq : o (w.heap.size + 1) with
    | none => rfl
    | some q => have := I.lt _ _ hq; omega
  have V := VW.toY hbn hbO hol hz2
  refine wpIn_block (wpIn_rangeFunc fun fnn _ => ?_)
  obtain ⟨ptrs, hv, hcall⟩ := range_call (fnn := fnn) hNa hlo I hk hf hcl hcc hbn hbN hbx hg hcaps hL0 hit
  obtain ⟨hH, hc⟩ := hcall _ rfl
  have hfr0 : ∀ s, OB ≤ s → gt L0 s = .free → ∀ g k, o g ≠ some (s, k) := fun s h1 h2 => by
    rcases hL0 s with e | ⟨h, _⟩ | ⟨_, h3, h4, _⟩
    · rw [e] at h2; cases h2
    · omega
    · have := I.slots s
      rw [hx_lo (by unfold HK OB2 at *; omega), h4] at this
      exact this
  generalize hrr : ({ state := .ready, pending := none, fn := fnn, tmps := a.tmps, params := ps.toArray, assign := assign, body := body, defers := w.heap.size } : Loop) = r at hc hH
  have hev : a.eval (.tmp g) = .func (.func fn) #[] ptrs := hv
  refine ⟨w.heap.size + 1, [{ target := .collected w.heap.size, args := #[] }], (w.alloc (.deferred (some []))).alloc (.loop r), { target := .fn (.func fn) ptrs, args := #[yv (w.heap.size + 1)] }, (w.alloc (.deferred (some []))).alloc (.loop r), fn, #[yv (w.heap.size + 1)] ++ ptrs, (w.alloc (.deferred (some []))).alloc (.loop r), ?_, ?_, fun _ _ => trivial, ?_, fun h => by simp [Fence.wide] at h, callsIn_wide.2 (hc.mono ?_)⟩
  · rw [← hrr]
    exact run_enterLoop_outer fnn a.tmps ps.toArray assign body
  · simp only [resolve, hev, Deferred.ofValue]
    simp [Act.eval, yv]
  · have hb : F.body ≠ none := fun e => by rw [e] at hbody; cases hbody
    have hn : F.name ≠ "runtime.NumGoroutine" := fun e => by rw [e] at hname; simp at hname
    simp [invoke, callFunc, hfn, hn, hb]
  · rintro e w3 ⟨u, m', o', S', a', rfl, J, hS'⟩
    obtain ⟨I4, hlow, k3, hoD, hD⟩ := range_after (x := .loop { (if b then r else { r with state := .done, pending := some .ret }) with state := .exhausted }) hNa I hz2 hf' hcl' hcc' hbn hbO hH hfr0 (by rw [← hrr]) J (fun cs E q => by simp) hS' { target := .collected w.heap.size, args := #[] }
    have hrs : (if b then r else { r with state := .done, pending := some .ret } : Loop).state ≠ .busy := by
      cases b <;> simp [← hrr]
    have hel := run_endLoop (P := P) k3 hrs
    have hD4 : (w3.putObj (w.heap.size + 1) (.loop { (if b then r else { r with state := .done, pending := some .ret }) with state := .exhausted })).heap[w.heap.size]? = some (.deferred (some [])) := (World.putObj_heap_other (by omega)).trans hD
    have hNa4 : ({ a with defers := { target := .collected w.heap.size, args := #[] } :: a.defers } : Act).tmps.size = N := hNa
    have hds : ({ target := .collected w.heap.size, args := #[] } :: a.defers : List Deferred) = { target := .collected w.heap.size, args := #[] } :: G.ds := by rw [I.defers]
    cases b with
    | false =>
      refine ⟨_, _, hel, ?_⟩
      refine wpIn_ret ?_
      refine ⟨LA f' bs cs' L0, hret rfl, .inr ⟨by simp, w.heap.size, hds, hD4, I.same.size, hNa, hlow, m', afO bs o o', hoD, ?_⟩⟩
      show Inv w0 m0 o0 ⟨G.p, { target := .collected w.heap.size, args := #[] } :: a.defers⟩ (DK :: pins) _ _ _ m' (afO bs o o')
      rw [I.defers]
      rw [I.defers] at I4
      exact I4
    | true =>
      rw [if_pos rfl] at hD4 I4 hel
      have hp0 : r.pending = none := by rw [← hrr]
      refine ⟨none, _, hel.trans (congrArg (fun x => Result.ok x _) hp0), ?_⟩
      have I6 := I4.nodk
      have hDlt : w.heap.size < (w3.putObj (w.heap.size + 1) (.loop { r with state := .exhausted })).heap.size := (Array.getElem?_eq_some_iff.1 hD4).1
      refine wpIn_mono (hrest rfl Fence.wide ne ⟨.wide, fun _ => rfl⟩ _ _ _ _ _ _ ⟨hNa4, hlow, m', afO bs o o', I6.base⟩) ?_
      rintro e a5 w5 ⟨L2, ⟨rfl, hq⟩, hS5⟩
      obtain ⟨hN5, hlo5, m5, o5, I5⟩ := hS5.st hp
      have I7 := (I6.comp (fun g h => h) I5).dk
      have hoD5 : o5 w.heap.size = none := by
        cases hq : o5 w.heap.size with
        | none => rfl
        | some q =>
          rcases I5.own _ q hq with h | h
          · exact absurd hoD h
          · exact absurd hDlt (Nat.not_lt.2 h)
      refine ⟨L2, hq, .inr ⟨by simp, w.heap.size, I5.defers, (I5.same.block _ hDlt fun h => h hoD).trans hD4, I.same.size, hN5, hlo5, m5, o5, hoD5, ?_⟩⟩
      rw [I5.defers]
      exact I7
end Go.Proofs.Ytjomnccladjpgaa

/-
  A function whose body ranges over a function: it leaves with a mark.
-/
namespace Go.Proofs.Ytjomnccladjpgaa
open Go Go.RowKit
set_option linter.unusedVariables false

section
variable {P : Program} {w0 : World} {m0 : Mem} {o0 : OwnM} {G : GD} {pins : List Nat} {S : Nat → A} {a : Act} {w : World} {m : Mem} {o : OwnM}
/-- A block that nobody owns and of which nothing is told turns; it was not there at the start. -/
theorem Inv.turn_new (I : Inv w0 m0 o0 G pins S a w m o) {l : Nat} (hl : o l = none) (hm : ∀ p, m l p = none) (h0 : w0.heap.size ≤ l) (hnc : ∀ cs E q, w.heap[l]? ≠ some (.cells cs E q)) (u : Obj) : Inv w0 m0 o0 G pins S a (w.putObj l u) m o := by
  have hne : ∀ g k, o g = some k → g ≠ l := fun g k h e => by subst e; rw [hl] at h; cases h
  have hh : ∀ g k, o g = some k → (w.putObj l u).heap[g]? = w.heap[g]? := fun g k h => World.putObj_heap_other (hne g k h)
  have K : Keep (fun _ => False) m w o m (w.putObj l u) o := ⟨.refl _, fun _ _ _ _ => rfl, fun g k h _ => hh g k h, fun _ _ h _ => h, fun _ _ h => h, fun g _ k _ h => ⟨g, k, h⟩, fun g j h => .of_eq (hh g _ h)⟩
  refine ⟨⟨I.same.os, I.same.tape, I.same.output, by rw [World.putObj_size]; exact I.same.size, fun k hk hn => ?_, fun k => ?_⟩, fun b p v h => ?_, I.mono, I.old, I.own, fun g k h => by rw [World.putObj_size]; exact I.lt g k h, I.inj, I.pinned, fun s => RepA.keep K (fun _ => id) (fun _ _ _ _ => ⟨id, id⟩) (I.slots s), I.defers, I.tbl, I.wide, I.shps.keep I.pinned K.sh⟩
  · rw [World.putObj_heap_other (by omega)]
    exact I.same.block k hk hn
  · refine (I.same.shape k).trans ?_
    by_cases e : k = l
    · subst e
      intro cs E q h
      exact absurd h (hnc _ _ _)
    · exact (ShpAt.of_eq (World.putObj_heap_other e)).w
  · have hb : b ≠ l := fun e => by subst e; rw [hm] at h; cases h
    have := I.sat b p v h
    unfold World.cell? at this ⊢
    rw [World.putObj_heap_other hb]
    exact this
/-- A function with a range over a function in its body. -/
theorem fch_mkR (fr : List Nat) {fn : FuncId} {F : Func} {c : Code} {args : List A} {rs : List ResultVar} {ins outs : List A} {f f' : Nat → A} {r : A} {n : Nat} {pins : List Nat} {L : SL} (hf : P.funcs[fn]? = some F) (hb : F.body = some c) (hn : F.ntmps = n) (hle : args.length ≤ n) (hres : F.results = rs.toArray)
    (hpins : (DK :: pinsH ins.length, Nat.ble n OB, fr.all (fun j => Nat.ble ins.length j && Nat.blt j OB), Nat.blt ins.length OB && Nat.blt outs.length OB, (match rs with | [.tmp t] => Nat.blt t OB | _ => true)) = (pins, true, true, true, true)) (hL : startH fr args ins f = L) (hc : CodeOK P pins n c (endH P rs outs f' r) L) : FCH P fn args ins outs f f' r := by
  injection hpins with hpins hw
  injection hw with hw hfr
  injection hfr with hfr hil
  injection hil with hil hrt
  have hw := Nat.le_of_ble_eq_true hw
  simp only [Bool.and_eq_true] at hil
  have hio : ins.length < OB := by simpa using hil.1
  have hoo : outs.length < OB := by simpa using hil.2
  have hfr1 : fr.all (fun j => Nat.ble ins.length j) = true := List.all_eq_true.2 fun j hj => by have := List.all_eq_true.1 hfr j hj; simp only [Bool.and_eq_true] at this; exact this.1
  have hfr2 : fr.all (fun j => Nat.blt j OB) = true := List.all_eq_true.2 fun j hj => by have := List.all_eq_true.1 hfr j hj; simp only [Bool.and_eq_true] at this; exact this.2
  subst hn hpins hL
  intro w m o vals hsat htbl hlt hinj hsz hrep
  obtain ⟨hlow, hs0, I0⟩ := fch_inv fr hle hw hio hfr1 hfr2 hsat htbl hlt hinj hsz hrep
  refine callsIn_wide.1 (callsIn_of_wp_marks (n := 0) hf hb trivial (wpIn_mono (hc Fence.wide 0 ⟨.wide, fun _ => rfl⟩ w m o ⟨fun g => o g ≠ none, []⟩ _ w ⟨hs0, hlow, m, o, I0.dk⟩) ?_))
  rintro e a' w' ⟨L', hq, hS⟩
  have fin : ∀ (w2 : World) (m' : Mem) (o' : OwnM) (ds : List Deferred), Low (gt L') → Inv w m o ⟨fun g => o g ≠ none, ds⟩ (pinsH ins.length) (hx (gt L')) a' w2 m' o' → ((∃ y, resA P (gt L') rs = some y ∧ WkA y r) ∧ outH L' 0 outs ∧ gt L' HK = .hp f') → ∃ v, (results F a'.tmps).run P w2 = .ok v w2 ∧ ∃ (u : Value) (m' : Mem) (o' : OwnM) (S' : Nat → A) (a' : Act) (ρ : Nat), Ending.returned v = .returned u ∧ Inv w m o ⟨fun g => o g ≠ none, []⟩ (pinsH ins.length) S' a' w2 m' o' ∧ RepA m' w2 o' S' ρ r u ∧ (∀ (i : Nat) (x : A), outs[i]? = some x → S' (OB + i) = x) ∧ (∀ c, S' (OB + (OB + c)) = san (f' c)) ∧ ρ < OB := by
    rintro w2 m' o' ds hlo' I ⟨⟨y, hy, hw⟩, ho, hk⟩
    obtain ⟨y', hy', hyy⟩ := resA_hx hy
    obtain ⟨v, ρ, h1, h2, h3⟩ := resA_low (P := P) I hres hrt hy'
    refine ⟨v, h1, v, m', o', hx (gt L'), { a' with defers := [] }, ρ, rfl, I.defs [], hw.rep I.sat (by rcases hyy with rfl | rfl; exact h2; exact trivial), fun i l h => ?_, fun c => hx_hp hlo' hk c, h3⟩
    have hi := (List.getElem?_eq_some_iff.1 h).1
    have := outH_get ho i l h
    rw [Nat.zero_add] at this
    rw [hx_lo (by unfold OB OB2 at *; omega), this]
  have plain : St w m o ⟨fun g => o g ≠ none, []⟩ (DK :: pinsH ins.length) F.ntmps L' a' w' → ((∃ y, resA P (gt L') rs = some y ∧ WkA y r) ∧ outH L' 0 outs ∧ gt L' HK = .hp f') → LeavesInM Fence.wide 0 P F a'.tmps (fun e w' => ∃ (u : Value) (m' : Mem) (o' : OwnM) (S' : Nat → A) (a' : Act) (ρ : Nat), e = .returned u ∧ Inv w m o ⟨fun g => o g ≠ none, []⟩ (pinsH ins.length) S' a' w' m' o' ∧ RepA m' w' o' S' ρ r u ∧ (∀ (i : Nat) (x : A), outs[i]? = some x → S' (OB + i) = x) ∧ (∀ c, S' (OB + (OB + c)) = san (f' c)) ∧ ρ < OB) a'.defers .returning w' := by
    rintro ⟨hN, hlo', m', o', I⟩ hq
    rw [I.defers]
    exact fin w' m' o' [] hlo' I.nodk hq
  cases e with
  | normal => exact plain hS hq
  | ret =>
    rcases hS with hS | ⟨_, D, hd, hD, h0, hN, hlo', m', o', hoD, I⟩
    · exact plain hS hq
    · show LeavesInM Fence.wide 0 P F a'.tmps _ a'.defers .returning w'
      rw [hd]
      refine ⟨by simp, .inl ⟨D, _, rfl, run_takeDeferred hD, ?_⟩⟩
      have hmD : ∀ p, m' D p = none := fun p => by
        cases hq : m' D p with
        | none => rfl
        | some v =>
          have := I.sat _ _ _ hq
          unfold World.cell? at this
          rw [hD] at this
          simp at this
      exact fin _ m' o' _ hlo' (I.nodk.turn_new hoD hmD h0 (fun cs E q => by rw [hD]; simp) (.deferred none)) hq
  | _ => exact hq.elim
end
end Go.Proofs.Ytjomnccladjpgaa

/-
  Caught variables that hold addresses of the heap's objects: frozen, read, caught.
-/
namespace Go.Proofs.Ytjomnccladjpgaa
open Go Go.RowKit
set_option linter.unusedVariables false

def dhT : T → Bool
  | .d _ | .hpt _ _ => true
  | _ => false
section
variable {w0 : World} {m0 : Mem} {o0 : OwnM} {G : GD} {pins : List Nat} {S M : Nat → A} {a : Act} {w : World} {m : Mem} {o : OwnM} {P : Program} {N : Nat}
/-- A variable that nothing writes any more. -/
theorem Inv.freezeT (I : Inv w0 m0 o0 G pins S a w m o) (s : Nat) (hsO : s < OB) (hs : s ∉ pins) {l : List T} (hpt : l.all dhT = true) (hbox : S s = .box l) (hno : ∀ t off, S t ≠ .ref s off) : ∃ m' o', Inv w0 m0 o0 G pins (upd S s (.imt l)) a w m' o' := by
  have hb := I.slots s
  rw [hbox] at hb
  obtain ⟨g, e, h1, h2, cs, E, h3, h4, h5⟩ := hb
  have hk : ∀ b l, (fun b => if (o b).map (·.1) = some s then none else o b) b = some l → l.1 ≠ s ∧ o b = some l := by
    intro b l h
    simp only at h
    split at h
    · cases h
    · rename_i hn
      exact ⟨fun e => hn (by rw [h, ← e]; rfl), h⟩
  have hko : ∀ b l, o b = some l → l.1 ≠ s → (if (o b).map (·.1) = some s then none else o b) = some l := fun b l h hn => by rw [h, if_neg (by simpa using hn)]
  have K : Keep (fun l => l.1 = s) m w o (newM m g fun p => cs[p]?) w (fun b => if (o b).map (·.1) = some s then none else o b) := by
    refine ⟨fun b p u h => ?_, fun b l h hn => ?_, fun _ _ _ _ => rfl, fun b l h hn => hko b l h hn, fun b j h => hko b _ h (OB_ne hsO), fun b t k _ h => ⟨b, k, (hk b _ h).2⟩, fun b j _ => .of_eq rfl⟩
    · unfold newM
      split
      · rename_i hb
        rw [hb, h2 p] at h
        cases h
      · exact h
    · have : b ≠ g := fun e => by
        subst e
        rw [h1] at h
        injection h with h
        exact hn (by rw [← h])
      funext p
      unfold newM
      rw [if_neg this]
  refine ⟨_, _, ⟨I.same, fun b p u h => ?_, I.mono.trans K.mle, fun b hb hg => ?_, fun b l h => I.own b l (hk b l h).2, fun b l h => I.lt b l (hk b l h).2, fun b b' l h h' => I.inj b b' l (hk b l h).2 (hk b' l h').2, fun p hp b hb => ?_, fun t => ?_, I.defers, I.tbl, I.wide, I.shps⟩⟩
  · unfold newM at h
    split at h
    · rename_i hb
      subst hb
      unfold World.cell?
      simp only [h3]
      exact h
    · exact I.sat b p u h
  · have : b ≠ g := fun e => by
      subst e
      rcases I.own b _ h1 with h | h
      · exact hg h
      · omega
    rw [← I.old b hb hg]
    funext p
    unfold newM
    rw [if_neg this]
  · exact hko b _ (I.pinned p hp b hb) fun e => hp.elim (fun hp => hs (by rw [← e]; exact hp)) fun hp => by have e : p = s := e; omega
  · by_cases ht : t = s
    · subst ht
      rw [upd_same]
      refine ⟨g, e hsO, fun j x hj => ?_⟩
      obtain ⟨ha, u, hu, hr⟩ := h5 j x hj
      refine ⟨u, by rw [newM_same]; exact hu, ?_⟩
      have hd := List.all_eq_true.1 hpt x (List.mem_of_getElem? hj)
      cases x with
      | d y => exact RepD.mono K.mle hr
      | hpt c off => obtain ⟨g2, q1, q2⟩ := hr; exact ⟨g2, K.pt g2 _ q1, q2⟩
      | _ => cases hd
    · rw [upd_other ht]
      refine RepA.keep K (fun j e => ht e) (fun b off e _ => ?_) (I.slots t)
      have hbs : b ≠ s := fun e' => hno t off (by rw [e, e'])
      exact ⟨hbs, fun ⟨l, hl⟩ => ⟨l, by rw [upd_other hbs, hl]⟩⟩
/-- From here on the variable of slot s doesn't change. -/
theorem c_fzT {c : Code} {Q : Exit → SL → Prop} {L : SL} (s : Nat) {l : List T} (hb : gt L s = .box l) (hp : (pins.contains s || !Nat.blt s OB) = false) (hr : (noRefTo s L && l.all dhT) = true) (h : CodeOK P pins N c Q ((s, .imt l) :: L)) : CodeOK P pins N c Q L := by
  intro Fe ne hF w0 m0 o0 G a w hS
  obtain ⟨hN, hlo, m, o, I⟩ := hS
  rw [Bool.or_eq_false_iff] at hp
  rw [Bool.and_eq_true] at hr
  obtain ⟨m', o', J⟩ := I.freezeT s (by simpa using hp.2) (by simpa using hp.1) hr.2 (hx_of hb (by simp)) (fun t off e => noRefTo_of hr.1 t off (hx_ref e))
  exact h Fe ne hF w0 m0 o0 G a w ⟨hN, by rw [gt_cons]; exact hlo.upd (lt2 (by simpa using hp.2)), m', o', by rw [gt_cons, hx_upd (.inl (by simpa using hp.2))]; exact J⟩
/-- What slots hold the addresses of. -/
def capsT (M : Nat → A) : List Operand → Option (List (List T))
  | [] => some []
  | x :: r => match cpO M x, capsT M r with
    | .imt l, some k => some (l :: k)
    | _, _ => none
theorem capsT_get (hM : Mk M S) (I : Inv w0 m0 o0 G pins S a w m o) : ∀ {xs : List Operand} {caps : List (List T)}, capsT M xs = some caps → xs.length = caps.length ∧ ∀ i l, caps[i]? = some l → RepA m w o S 0 (.imt l) ((xs.map a.eval).getD i undef)
  | [], caps, h => by injection h with h; subst h; exact ⟨rfl, fun i l h => by simp at h⟩
  | x :: r, caps, h => by
    unfold capsT at h
    split at h
    case h_2 => cases h
    rename_i l k h1 h2
    injection h with h
    subst h
    obtain ⟨k1, k2⟩ := capsT_get hM I h2
    refine ⟨by simp [k1], fun i l' hi => ?_⟩
    cases i with
    | zero =>
      injection hi with hi
      subst hi
      have := cpO_rep hM I x 0
      rw [h1] at this
      exact this
    | succ i => simpa using k2 i l' (by simpa using hi)
theorem ok_mfT (hM : Mk M S) {op : Oper} {d f : Nat} {xs : List Operand} (hop : op.op = .makeFunc (.func f) #[] xs.toArray) (hd : op.dst = some d) (hok : okD N pins S d = true) {caps : List (List T)} (hc : capsT M xs = some caps) (hdh : caps.all (fun l => l.all dhT) = true) : OpOK P pins N op S (upd S d (.cl f caps)) := by
  refine ok_of_run fun w0 m0 o0 G a w m o hN I => ?_
  obtain ⟨k1, k2, k3⟩ := okD_iff hok
  obtain ⟨c1, c2⟩ := capsT_get hM I hc
  have hrep : RepA m w o (upd S d (.cl f caps)) d (.cl f caps) (.func (.func f) #[] (xs.map a.eval).toArray) := by
    refine ⟨_, rfl, by simpa using c1, fun i l hi => ?_⟩
    have hlt : i < xs.length := by rw [c1]; exact (List.getElem?_eq_some_iff.1 hi).1
    obtain ⟨g, e, h⟩ := c2 i l hi
    refine ⟨g, ?_, fun j x hj => ?_⟩
    · rw [← e, List.getElem?_toArray, List.getD_eq_getElem?_getD, List.getElem?_eq_getElem (by simpa using hlt)]
      rfl
    · obtain ⟨u, q1, q2⟩ := h j x hj
      refine ⟨u, q1, ?_⟩
      have hd := List.all_eq_true.1 (List.all_eq_true.1 hdh l (List.mem_of_getElem? hi)) x (List.mem_of_getElem? hj)
      cases x with
      | d y => exact q2
      | hpt c off => exact q2
      | _ => cases hd
  refine ⟨.func (.func f) #[] (xs.map a.eval).toArray, w, m, o, ?_, by rw [hd]; exact I.set d _ _ (by omega) k2 hrep⟩
  unfold execOp
  rw [hop]
  simp [Instr.makeFunc]
theorem ok_ldT (hM : Mk M S) {op : Oper} {d t n : Nat} {x : Operand} {l : List T} {z : T} {y : A} (hop : op.op = .load t x) (ht : tyA P t = some (false, n)) (hx : cpO M x = .imt l) (hz : l[0]? = some z) (hy : norH z = some y) (hd : op.dst = some d) (hok : okD N pins S d = true) : OpOK P pins N op S (upd S d y) := by
  refine ok_of_run fun w0 m0 o0 G a w m o hN I => ?_
  obtain ⟨h1, h2, h3⟩ := okD_iff hok
  have hxr := cpO_rep hM I x 0
  rw [hx] at hxr
  obtain ⟨g, e, k1⟩ := hxr
  obtain ⟨u, hu, hr⟩ := k1 0 z hz
  refine ⟨u, w, m, o, ?_, by rw [hd]; exact I.set d _ _ (by omega) h2 (norH_rep I.sat hy hr)⟩
  unfold execOp
  rw [hop]
  simp only [Sem.run_bind]
  rw [e]
  simp only [Instr.loadAt, Instr.sureAddr, Sem.run_bind, Sem.run_pure, Result.andThen_ok]
  rw [run_loadVar_one ht (I.sat _ _ _ hu)]
  rfl
theorem h_ldT {op : Oper} {d : Nat} (hM : Mk M S) {t n : Nat} {x : Operand} {l : List T} {z : T} {y : A} (hop : op.op = .load t x) (ht : tyA P t = some (false, n)) (hx : cpO M x = .imt l) (hz : l[0]? = some z) (hy : norH z = some y) (hd : op.dst = some d) (hok : okD N pins S d = true) : OpH P pins N op S (app S [(d, y)]) :=
  .of (e := [(d, y)]) fun hN => ⟨ok_ldT hM.hx hop ht hx hz hy hd (okD_hx hN hok), eff_1 (okD_lo hN hok)⟩
theorem h_mfT {op : Oper} {d f : Nat} (hM : Mk M S) {xs : List Operand} (hop : op.op = .makeFunc (.func f) #[] xs.toArray) (hd : op.dst = some d) (hok : okD N pins S d = true) {caps : List (List T)} (hc : capsT M xs = some caps) (hdh : caps.all (fun l => l.all dhT) = true) : OpH P pins N op S (app S [(d, .cl f caps)]) :=
  .of (e := [(d, .cl f caps)]) fun hN => ⟨ok_mfT hM.hx hop hd (okD_hx hN hok) hc hdh, eff_1 (okD_lo hN hok)⟩
/-- A variable of the frame that holds an address of the heap. -/
theorem boxp_ok (I : Inv w0 m0 o0 G pins S a w m o) {d c off : Nat} (E : TypeId) {v : Value} (hd : d < a.tmps.size) (hbox : (S d).isBox = false) (hpin : d ∉ pins) {s : Nat} (hy : RepA m w o S s (.t (.hpt c off)) v) :
    ∃ m' o', Inv w0 m0 o0 G pins (upd S d (.box [.hpt c off])) (a.put (some d) (.pointer (some ⟨w.heap.size, 0, none⟩))) (w.alloc (.cells v.cells E)) m' o' := by
  obtain ⟨g, h1, h2⟩ := hy
  have hdO : d < OB := Nat.lt_of_lt_of_le hd I.wide
  refine ⟨_, _, I.own_put d _ _ (fun _ => none) w.heap.size _ hd hbox hpin (I.free (Nat.le_refl _)) (I.newG (Nat.le_refl _)) ((Same.alloc (fun _ => False) w _).weaken (fun _ h => h.elim)) (by simp) (fun p u h => by rw [I.mem_none (Nat.le_refl _)] at h; cases h) (fun p u h => by cases h) ?_⟩
  have hv : v.cells = #[v] := by rw [h2]; rfl
  refine ⟨w.heap.size, fun _ => rfl, newO_same _ _ _, fun p => newM_same _ _ _ _, v.cells, E, heap_alloc_new w _, ?_, fun j x hj => ?_⟩
  · rw [hv]; simp
  · cases j with
    | succ j => simp at hj
    | zero =>
      injection hj with hj
      subst hj
      refine ⟨rfl, v, by rw [hv]; rfl, g, ?_, h2⟩
      have hg := I.lt g _ h1
      show newO o d w.heap.size g = _
      unfold newO
      rw [if_neg (by omega), if_neg (by rw [h1]; simp; omega)]
      exact h1
theorem h_boxp (hM : Mk M S) {op : Oper} {d E c off : Nat} {x : Operand} (hop : op.op = .box E x) (hx : cpO M x = .t (.hpt c off)) (hd : op.dst = some d) (hok : okD N pins S d = true) : OpH P pins N op S (app S [(d, .box [.hpt c off])]) :=
  .of (e := [(d, .box [.hpt c off])]) fun hNO => ⟨by
    refine ok_of_run fun w0 m0 o0 G a w m o hN I => ?_
    obtain ⟨h1, h2, h3⟩ := okD_iff (okD_hx hNO hok)
    have hr := cpO_rep hM.hx I x 0
    rw [hx] at hr
    obtain ⟨m', o', J⟩ := boxp_ok I E (by omega) h2 h3 hr
    refine ⟨_, _, m', o', ?_, by rw [hd]; exact J⟩
    unfold execOp
    rw [hop]
    simp only [Sem.run_bind, box_run, Result.andThen_ok]
    rfl, eff_1 (okD_lo hNO hok)⟩
end
end Go.Proofs.Ytjomnccladjpgaa

/-
  Heaps with a loop's objects: what rules ask of them.
-/
namespace Go.Proofs.Ytjomnccladjpgaa
open Go Go.RowKit
set_option linter.unusedVariables false

theorem nz_noLoc {x : T} (h : nzT x = true ∧ ∀ i, x = .mpt i → OB ≤ i) : x.isLoc = false := by
  cases x with
  | ptr j off => exact absurd h.1 (by simp [nzT])
  | view j off E k n => exact absurd h.1 (by simp [nzT])
  | mpt i =>
    have := h.2 i rfl
    show Nat.blt i OB = false
    cases e : Nat.blt i OB with
    | false => rfl
    | true => have : i < OB := by simpa using e
              omega
  | _ => rfl
theorem pure_hz {f z : Nat → A} (hf : pureH f) (hz' : pureH z) : pureH (hz f z) := fun c l h x hx => by
  unfold hz at h
  split at h
  · exact hz' _ _ h x hx
  · exact hf _ _ h x hx
theorem pure_zA {l : Nat} {u : Obj} {mE : Mem} {oE : OwnM} {cs : List (List T)} (h : ∀ c ∈ cs, nzC c) : pureH (zA l u mE oE cs) := fun i q e x hx => by
  unfold zA at e
  split at e
  · cases e
  · split at e
    · rename_i c hc
      injection e with e
      subst e
      exact nz_noLoc (h _ (List.mem_of_getElem? hc) x hx)
    · cases e
/-- What the heap holds, by kind and number. -/
theorem NC_hpF {g : Nat → Nat → A} (h63 : ∀ i, g 63 i = .free) (hb : ∀ t i l, g t i = .box l → nzC l) (hr : ∀ t i b u mE oE, g t i ≠ .rcd b u mE oE) : NC (hpF g) where
  z c hc := by
    have : hpF g c = .free := by unfold hpF; rw [hc]; exact h63 _
    rw [this]; rfl
  b c l h x hx := by
    have h2 : hpF g c = .box l := by cases hq : hpF g c <;> rw [hq] at h <;> first | exact h | cases h
    exact (hb _ _ l h2 x hx).1
  r c b u mE oE h := by
    have h2 : hpF g c = .rcd b u mE oE := by cases hq : hpF g c <;> rw [hq] at h <;> first | exact h | cases h
    exact hr _ _ _ _ _ _ h2
  c c l h := by
    have h2 : hpF g c = .box l := by cases hq : hpF g c <;> rw [hq] at h <;> first | exact h | cases h
    exact hb _ _ l h2
theorem nzC_arA {α : Type} {l : List α} {f : Nat → α → List T} {i : Nat} {q : List T} (h : ∀ i x, nzC (f i x)) (e : arA l f i = .box q) : nzC q := by
  unfold arA at e
  split at e
  · injection e with e; subst e; exact h _ _
  · cases e
theorem rcd_arA {α : Type} {l : List α} {f : Nat → α → List T} {i b : Nat} {u : Obj} {mE : Mem} {oE : OwnM} : arA l f i ≠ .rcd b u mE oE := by
  unfold arA
  split <;> simp
theorem nzC_nil : nzC [] := fun _ h => by cases h
theorem nzC_cons {x : T} {l : List T} (h : nzT x = true ∧ ∀ i, x = .mpt i → OB ≤ i) (hl : nzC l) : nzC (x :: l) := fun y hy => by
  rcases List.mem_cons.1 hy with rfl | hy
  · exact h
  · exact hl y hy
theorem nzC_d {x : D} {l : List T} (hl : nzC l) : nzC (.d x :: l) := nzC_cons ⟨rfl, fun _ e => by cases e⟩ hl
theorem nzC_own {E k : Nat} {r : List (List D)} {l : List T} (hl : nzC l) : nzC (.own E k r :: l) := nzC_cons ⟨rfl, fun _ e => by cases e⟩ hl
theorem nzC_hpt {c off : Nat} {l : List T} (hc : c % 64 ≠ 63) (hl : nzC l) : nzC (.hpt c off :: l) := nzC_cons ⟨by simpa [nzT] using hc, fun _ e => by cases e⟩ hl
/-- A heap contract, in a heap with a loop's objects. -/
theorem FCH.more {P : Program} {fn : FuncId} {args : List A} {f f' : Nat → A} {r : A} (hf : FCH P fn args [] [] f f' r) (h0 : NZ f) (h0' : NZ f') (ha : args.all nzA = true) (hle : args.length ≤ OB) (z : Nat → A) : FCH P fn args [] [] (hz f z) (hz f' z) r :=
  FCK.frame (K := Calls P fn) (fun _ _ _ _ h k => Calls.mono h k) hf h0 h0' ha hle z
/-- The operation `call yield`, in a walk. -/
theorem o_yld {P : Program} {pins : List Nat} {N : Nat} {ops : Array Oper} {Q : SL → Prop} {r : List Oper} {op : Oper} {L : SL} {f f' : Nat → A} {d l : Nat} {xs : List Operand} {ts : Array TypeId} {fx : Operand} {args : List A} {b : Bool}
    (hy : yes ops op L true) (hk : gt L HK = .hp f) (hop : op.op = .call { callee := .value fx, args := xs.toArray, argTypes := ts }) (hfx : vO (gt L) fx = some (yv l)) (hd : op.dst = some d) (hok : okD N pins (gt L) d = true)
    (hf : YLD P l args f f' b) (hp : pureH f) (hp' : pureH f') (hargs : ArgsH [] (xs.map (cpO (gt L))) args) (hle : Nat.ble args.length OB = true) (k : OpsOK P pins N ops Q r ((d, .t (.d (.lit (.bool b)))) :: (HK, .hp f') :: L)) : OpsOK P pins N ops Q (op :: r) L :=
  o_ofY hy (y_call (Mk.refl _) hk hop hfx hd hok hf hp hp' hargs hle) rfl k
end Go.Proofs.Ytjomnccladjpgaa
