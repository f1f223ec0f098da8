/-
  Texts joined: see the remark at the head of each part.
-/
import Derived.Test.YtjomnccladjpgaaQ05
import Derived.Test.YtjomnccladjpgaaQ09
import Derived.Lib.AppendZeros
import Derived.Test.YtjomnccladjpgaaQ07
import Derived.Test.YtjomnccladjpgaaQ08
set_option linter.unusedVariables false
set_option linter.unusedSimpArgs false
/-
  A slice of zeros appended; a slice that may grow out of a call's results; the program's numbers as bytes that may grow.
-/
namespace Go.Proofs.Ytjomnccladjpgaa
open Go Go.RowKit
set_option linter.unusedVariables false
set_option linter.unusedSimpArgs false

/-! ### Zeros -/
theorem zeroCells_one {z : Value} (n : Nat) : Builtin.zeroCells #[z] n = (List.replicate n z).toArray := by
  unfold Builtin.zeroCells
  apply Array.ext_getElem?
  intro i
  rw [Array.getElem?_map, Array.getElem?_range]
  by_cases h : i < n
  · rw [if_pos (by simpa using h)]; simp [h, Nat.mod_one]
  · rw [if_neg (by simpa using h)]; simp [h]
theorem run_app_zeros (P : Program) (w : World) {t tn e : TypeId} {ie : TypeInfo} {z : Value} (hu : P.underlying t = some (.slice e)) (kn : IntKind) (htn : P.underlying tn = some (.int kn)) (hi : P.info? e = some ie) (hz : ie.zero = some z) (hs1 : ie.size = 1) (hz1 : z.cells = #[z]) (hz2 : z.oneCell' = true) (hpb : 0 < ie.bytes) (ty : TypeId) (A' : Option Addr) (n c : Nat) (xs : List Value) (hown : Own w 0 e 1 A' n c xs)
    (ki : IntKind) (k : Nat) (hb : (n + k) * ie.bytes ≤ 140737488355328) :
    ∃ A2 c2 w', (Builtin.append_ #[t, tn] ty #[.slice A' n c, .int ki k]).run P w = .ok (.slice A2 (n + k) c2) w' ∧ Own w' 0 e 1 A2 (n + k) c2 (xs ++ List.replicate k z) ∧
      ((blk A2 = blk A' ∧ w.grownBy w' (blk A')) ∨ (blk A2 = some w.heap.size ∧ w.grownBy w' none)) := by
  have h63 : n + k ≤ maxLen := by
    have := Nat.le_mul_of_pos_right (n + k) hpb
    unfold maxLen; omega
  have hsmall : n + k ≤ 9223372036854775807 := by simp only [maxLen] at h63; omega
  have hw : IntKind.i64.wrap (k : Int) = k := by rw [IntKind.wrap_i64]; omega
  have hneg : ¬ ((k : Int) < 0) := by omega
  have hkb : k * ie.bytes ≤ 140737488355328 := Nat.le_trans (Nat.mul_le_mul_right _ (by omega)) hb
  have h48i : ¬ (281474976710656 < (k : Int) * (ie.bytes : Int)) := by
    rw [← Int.natCast_mul]
    omega
  have hlen : (xs ++ List.replicate k z).length = (n + k) * 1 := by rw [List.length_append, hown.1, List.length_replicate, Nat.add_mul, Nat.mul_one k]
  have hxl : xs.length = n := by rw [hown.1, Nat.mul_one]
  have grown : ∀ (old : Nat), old < n + k → 
      Own (w.drew.alloc (.cells (xs.toArray ++ (List.replicate k z).toArray ++ Builtin.zeroCells z.cells (grownCap w (n + k) old e - (n + k))) e)) 0 e 1 (some ⟨w.heap.size, 0, none⟩) (n + k) (grownCap w (n + k) old e) (xs ++ List.replicate k z) ∧
      w.grownBy (w.drew.alloc (.cells (xs.toArray ++ (List.replicate k z).toArray ++ Builtin.zeroCells z.cells (grownCap w (n + k) old e - (n + k))) e)) none := by
    intro old ho
    have hge := grownCap_ge w (n + k) old e
    have hcm : grownCap w (n + k) old e ≤ maxLen := grownCap_le_maxLen w (n + k) old e h63
    refine ⟨⟨hlen, .inr ⟨w.heap.size, _, _, rfl, Nat.zero_le _, heap_alloc_new w.drew _, hge, hcm, ?_, ?_⟩⟩, ⟨rfl, rfl, rfl, by simp, fun q hq _ => Below.heap_alloc w.drew _ q hq⟩⟩
    · simp only [Array.size_append, List.size_toArray, size_zeroCells, hz1, hxl, List.length_replicate, Nat.mul_one]
      rw [List.length_singleton, Nat.mul_one]
      omega
    · simp only [Array.toList_append, List.append_assoc]
      rw [← List.append_assoc, ← hlen]
      exact List.take_left
  rcases hown.2 with ⟨hv, rfl⟩ | ⟨g, cap, cur, hv, hbg, hg, hnc, hcm, hcs, htake⟩
  · injection hv with hv hv2 hv3
    subst hv hv3
    have hx : xs = [] := List.eq_nil_of_length_eq_zero hxl
    subst hx
    by_cases hm : k = 0
    · subst hm
      refine ⟨none, 0, w, ?_, World.ownsRow_nil w 0 e 1, .inl ⟨rfl, World.grownBy.refl w _⟩⟩
      simp [Builtin.append_, run_underlying hu, run_underlying htn, sizeOf, typeInfo, hi, asInt, asIntOf, show IntKind.i64.wrap 0 = 0 from rfl, hs1]
    · have hr := Lib.run_append_nil_zeros (P := P) w t tn ty e ie z ki kn hu htn hi hz k (by omega) (by omega) (by omega) (by omega)
      have hgr := grown 0 (by omega)
      simp only [Nat.zero_add, List.nil_append, Array.empty_append] at hgr ⊢
      have hzk : Builtin.zeroCells z.cells k = (List.replicate k z).toArray := by rw [hz1, zeroCells_one]
      rw [hzk] at hr
      exact ⟨_, _, _, hr, hgr.1, .inr ⟨rfl, hgr.2⟩⟩
  · injection hv with hv hv2 hv3
    subst hv hv3
    by_cases hm : k = 0
    · subst hm
      refine ⟨some ⟨g, 0, none⟩, c, w, ?_, by simpa using hown, .inl ⟨rfl, World.grownBy.refl w _⟩⟩
      simp [Builtin.append_, run_underlying hu, run_underlying htn, sizeOf, typeInfo, hi, asInt, asIntOf, show IntKind.i64.wrap 0 = 0 from rfl, hs1, hnc, storeCells]
    by_cases hroom : n + k ≤ c
    · have hfit : n * ie.size + (List.replicate k z).length ≤ cur.size := by rw [List.length_replicate, hcs, hs1, Nat.mul_one, Nat.mul_one]; exact hroom
      have hst := run_storeCells_at P g (n * ie.size) e (List.replicate k z) 0 cur w hg (by simpa using hfit) (fun u hu => by rw [(List.mem_replicate.1 hu).2]; exact hz2)
      simp only [Nat.add_zero] at hst
      have hr : (Builtin.append_ #[t, tn] ty #[.slice (some ⟨g, 0, none⟩) n c, .int ki k]).run P w = .ok (.slice (some ⟨g, 0, none⟩) (n + k) c) (w.setRow g (cur.toList.take (n * ie.size) ++ List.replicate k z ++ cur.toList.drop (n * ie.size + (List.replicate k z).length)).toArray) := by
        have hzk : Builtin.zeroCells #[z] k = (List.replicate k z).toArray := zeroCells_one k
        rw [hs1, Nat.mul_one] at hst
        simp [Builtin.append_, run_underlying hu, run_underlying htn, sizeOf, typeInfo, zeroValue, hi, hz, hs1, hz1, hm, asInt, asIntOf, hw, hneg, h48i, hroom, hzk, Addr.add_lit, hst]
      refine ⟨_, _, _, hr, ⟨hlen, .inr ⟨g, c, _, rfl, hbg, setRow_heap w g cur _ e _ hg, hroom, hcm, ?_, ?_⟩⟩, .inl ⟨rfl, ⟨rfl, rfl, rfl, by simp, fun k _ hk => setRow_other w g k _ (fun e => hk (by simp [blk, e]))⟩⟩⟩
      · simp only [List.size_toArray, List.length_append, List.length_take, List.length_drop, Array.length_toList]
        omega
      · rw [hs1, htake, ← hlen]
        exact List.take_left
    · have holds : ∀ j u, xs[j]? = some u → w.cell? ((⟨g, 0, none⟩ : Addr).add j) = some u := World.ownsRow.cells hown (g := g) rfl
      have hn : ¬ (n + k ≤ c) := hroom
      have h63' : ¬ (9223372036854775807 < ((n : Int) + (k : Int))) := by omega
      have h48' : ¬ (281474976710656 < Builtin.nextslicecap (n + k) c * ie.bytes) := by have := growslice_fits (need := n + k) (old := c) (bytes := ie.bytes) (by omega) hb; omega
      have hfo := run_firstCells_some (P := P) w.drew ie.size n ⟨g, 0, none⟩ n c xs (by rw [hs1, hown.1]) (by simpa using holds)
      have hzk : ∀ q, Builtin.zeroCells #[z] q = (List.replicate q z).toArray := zeroCells_one
      have hgr := grown c (by omega)
      refine ⟨_, _, _, ?_, hgr.1, .inr ⟨rfl, hgr.2⟩⟩
      rw [hs1] at hfo
      simp [Builtin.append_, run_underlying hu, run_underlying htn, sizeOf, typeInfo, zeroValue, hi, hz, hs1, hz1, hm, asInt, asIntOf, hw, hneg, h48i, hn, h63', h48', Question.forced, hfo, newRow, grownCap, hzk]
section
variable {w0 : World} {m0 : Mem} {o0 : OwnM} {G : Nat → Prop} {pins : List Nat} {S M : Nat → A} {a : Act} {w : World} {m : Mem} {o : OwnM} {P : Program} {N : Nat}
/-- What k zeros of an element of one cell are. -/
def zerF (P : Program) (t tn : TypeId) : Option (Nat × Nat × Value) := match P.underlying t, P.underlying tn with
  | some (.slice e), some (.int _) => match P.info? e with
    | some ie => match ie.zero with
      | some (.int kz nz) => if ie.size = 1 ∧ 0 < ie.bytes then some (e, ie.bytes, .int kz nz) else none
      | _ => none
    | none => none
  | _, _ => none
end
/-! ### A call's results go over, with what may grow -/

/-! ### The program's numbers as bytes that may grow -/
end Go.Proofs.Ytjomnccladjpgaa

/-
  Growing a nil slice: cap, a cut of nil, append of zeros to nil, and the empty piece of what that gives.
-/
namespace Go.Proofs.Ytjomnccladjpgaa
open Go Go.RowKit
set_option linter.unusedVariables false
section
variable {w0 : World} {m0 : Mem} {o0 : OwnM} {G : Nat → Prop} {pins : List Nat} {S M : Nat → A} {a : Act} {w : World} {m : Mem} {o : OwnM} {P : Program} {N : Nat} {op : Oper} {d : Nat}
theorem h_cap0 (hM : Mk M S) {t e : Nat} {x : Operand} (hop : op.op = .call { callee := .builtin .cap, args := ⟨[x]⟩, argTypes := ⟨[t]⟩ }) (hx : vO M x = some (.slice none 0 0)) (hu : P.underlying t = some (.slice e)) (hd : op.dst = some d) (hok : okD N pins S d = true) : OpH P pins N op S (app S [(d, .t (.d (.lit (.int .i64 0))))]) := by
  refine .of (e := [(d, _)]) fun hN => ⟨?_, eff_1 (okD_lo hN hok)⟩
  refine ok_of_run fun w0 m0 o0 G ac w m o hN' I => ?_
  obtain ⟨h1, h2, h3⟩ := okD_iff (okD_hx hN hok)
  refine ⟨.int .i64 0, w, m, o, ?_, by rw [hd]; exact I.set d _ _ (by omega) h2 (.lit _ rfl)⟩
  unfold execOp
  rw [hop]
  simp only [resolve, invoke, builtin, Sem.run_bind, Sem.run_pure, Result.andThen_ok, List.map_toArray, List.map_cons, List.map_nil]
  rw [vO_eq hM.hx I hx]
  simp [Builtin.cap_, run_underlying hu, goInt]
theorem h_slnil (hM : Mk M S) {t e : Nat} {x : Operand} {hi : Option Operand} {ie : TypeInfo} (hop : op.op = .slice t x none hi none) (hx : vO M x = some (.slice none 0 0)) (hhi : bndO M hi = some (some 0)) (hu : P.underlying t = some (.slice e)) (hie : P.info? e = some ie) (hd : op.dst = some d) (hok : okD N pins S d = true) : OpH P pins N op S (app S [(d, .t (.d (.lit (.slice none 0 0))))]) := by
  refine .of (e := [(d, _)]) fun hN => ⟨?_, eff_1 (okD_lo hN hok)⟩
  refine ok_of_run fun w0 m0 o0 G ac w m o hN' I => ?_
  obtain ⟨h1, h2, h3⟩ := okD_iff (okD_hx hN hok)
  obtain ⟨kh, e2⟩ := bndO_eq hM.hx I hhi
  refine ⟨.slice none 0 0, w, m, o, ?_, by rw [hd]; exact I.set d _ _ (by omega) h2 (.lit _ rfl)⟩
  unfold execOp
  rw [hop]
  simp only [Sem.run_bind]
  rw [e2, vO_eq hM.hx I hx]
  have hb : (Instr.sliceBounds true 0 0 none ((some (0 : Int)).map fun z => .int (kh z) z) none).run P w = .ok (0, 0, 0) w := by
    unfold Instr.sliceBounds
    simp only [Option.map_some, Option.isSome_some, Sem.run_bind, Sem.run_pure, Result.andThen_ok]
    repeat (rw [run_sliceBound_ok (by omega) (by omega), Result.andThen_ok])
    rfl
  show Result.andThen (Sem.run P (Instr.sliceAt t (.slice none 0 0) none _ none) w) _ = _
  unfold Instr.sliceAt
  simp only [Sem.run_bind, run_underlying hu, Result.andThen_ok]
  unfold Instr.slice
  simp only [Sem.run_bind, run_underlying hu, Result.andThen_ok]
  rw [hb]
  simp [sizeOf, typeInfo, hie]
def growI (nb : Nat) (n : Int) : Option Nat := if 0 < n ∧ n.toNat * nb ≤ 140737488355328 then some n.toNat else none
theorem h_apfr (hM : Mk M S) {t tn e nb q : Nat} {z : Value} {x y : Operand} {ki : IntKind} {n : Int} (hop : op.op = .call { callee := .builtin .append, args := ⟨[x, y]⟩, argTypes := ⟨[t, tn]⟩ }) (hx : vO M x = some (.slice none 0 0)) (hn : vO M y = some (.int ki n)) (hz : zerF P t tn = some (e, nb, z)) (hq : growI nb n = some q) (hd : op.dst = some d) (hok : okD N pins S d = true) : OpH P pins N op S (app S [(d, .fr e 1)]) := by
  unfold zerF at hz
  split at hz
  case h_2 => cases hz
  rename_i e' kn hu htn
  split at hz
  case h_2 => cases hz
  rename_i ie hi
  split at hz
  case h_2 => cases hz
  rename_i kz nz hz0
  split at hz
  case isFalse => cases hz
  rename_i hc
  obtain ⟨hs1, hpb⟩ := hc
  generalize hzz : Value.int kz nz = z' at *
  have hz1 : z'.cells = #[z'] := by rw [← hzz]; rfl
  have hz2 : z'.oneCell' = true := by rw [← hzz]; rfl
  injection hz with hz
  injection hz with q1 hz
  injection hz with q2 q3
  subst q1 q2 q3
  unfold growI at hq
  split at hq
  case isFalse => cases hq
  rename_i hq'
  injection hq with hq
  subst hq
  obtain ⟨hq0, hb⟩ := hq'
  obtain ⟨k, rfl⟩ := Int.eq_ofNat_of_zero_le (Int.le_of_lt hq0)
  simp only [Int.toNat_natCast] at hb
  have hk : 0 < k := by omega
  refine .of (e := [(d, _)]) fun hN => ⟨?_, eff_1 (okD_lo hN hok)⟩
  refine ok_of_run fun w0 m0 o0 G a w m o hN' I => ?_
  obtain ⟨h1, h2, h3⟩ := okD_iff (okD_hx hN hok)
  obtain ⟨A2, c2, w', hrun, hown, hcase⟩ := run_app_zeros P w hu kn htn hi hz0 hs1 hz1 hz2 hpb op.type none 0 0 [] (World.ownsRow_nil w 0 e' 1) ki k (by simpa using hb)
  rw [Nat.zero_add] at hrun hown
  obtain ⟨g, cap, cur, hv, _, hg, hcap, hmax, hsz, htk⟩ := hown.2.resolve_left fun h => by omega
  injection hv with hv _ hv2
  subst hv hv2
  have hgr : g = w.heap.size ∧ w.grownBy w' none := by
    rcases hcase with ⟨h, _⟩ | ⟨h, h'⟩
    · cases h
    · injection h with h; exact ⟨h, h'⟩
  obtain ⟨rfl, hgr⟩ := hgr
  refine ⟨_, w', _, _, ?_, by
    rw [hd]
    refine I.own_put d (.fr e' 1) (.slice (some ⟨w.heap.size, 0, none⟩) k c2) (fun _ => none) w.heap.size w' (by omega) h2 h3 (I.free (Nat.le_refl _)) (I.newG (Nat.le_refl _)) ⟨hgr.os, hgr.tape, hgr.output, hgr.size, fun j hj _ => hgr.block j hj (by simp)⟩ (by
      exact (Array.getElem?_eq_some_iff.1 hg).1) (fun p u h => by rw [I.mem_none (Nat.le_refl _)] at h; cases h) (fun p u h => by cases h) ?_
    exact ⟨w.heap.size, k, c2, cur, rfl, newO_same _ _ _, fun p => newM_same _ _ _ _, hg, hcap, hmax, hsz⟩⟩
  unfold execOp
  rw [hop]
  simp only [resolve, invoke, builtin, Sem.run_bind, Sem.run_pure, Result.andThen_ok, List.map_toArray, List.map_cons, List.map_nil]
  rw [vO_eq hM.hx I hx, vO_eq hM.hx I hn, hrun]
  rfl
/-- A block that only slot s owned, of which nothing is told any more. -/
theorem Inv.unown (I : Inv w0 m0 o0 G pins S a w m o) {s g : Nat} (hs : s < OB) (hp : s ∉ pins) (hS : S s = .any) (ho : o g = some (s, 0)) : Inv w0 m0 o0 G pins S a w m (fun b => if b = g then none else o b) := by
  have hk : ∀ b l, (fun b => if b = g then none else o b) b = some l → b ≠ g ∧ o b = some l := by
    intro b l h
    show _ ∧ _
    by_cases e : b = g
    · simp only [e, if_pos] at h; cases h
    · simp only [e, if_neg, if_false] at h; exact ⟨e, h⟩
  have K : Keep (fun l => l.1 = s) m w o m w (fun b => if b = g then none else o b) := ⟨Mle.refl _, fun _ _ _ _ => rfl, fun _ _ _ _ => rfl, fun b l h hn => by
      show (if b = g then none else o b) = _
      rw [if_neg (fun e => by rw [e, ho] at h; injection h with h; exact hn (by rw [← h])), h], fun b j h => by
      show (if b = g then none else o b) = _
      rw [if_neg (fun e => by rw [e, ho] at h; injection h with h; injection h with h; omega), h], fun b t k _ h => ⟨b, k, (hk b _ h).2⟩, fun _ _ _ => .of_eq rfl⟩
  refine ⟨I.same, I.sat, I.mono, I.old, fun b l h => I.own b l (hk b l h).2, fun b l h => I.lt b l (hk b l h).2, fun b b' l h h' => I.inj b b' l (hk b l h).2 (hk b' l h').2, fun p hpp b hb => ?_, fun t => ?_, I.defers, I.tbl, I.wide, I.shps⟩
  · exact K.own b _ (I.pinned p hpp b hb) (fun e => hpp.elim (fun h => hp (by have e : p = s := e; rw [← e]; exact h)) fun h => by have e : p = s := e; omega)
  · by_cases e : t = s
    · subst e; rw [hS]; trivial
    · refine RepA.keep K (fun _ e2 => e e2) (fun b off he hb => ⟨fun e2 => ?_, id⟩) (I.slots t)
      have e2 : b = s := e2
      subst e2
      have h := I.slots t
      rw [he] at h
      obtain ⟨_, _, _, h3⟩ := h
      obtain ⟨l, hl⟩ := h3 hb
      rw [hS] at hl
      cases hl
theorem h_slfr {s : Nat} (hM : Mk M S) {t e E k : Nat} {hi : Option Operand} {ie : TypeInfo} (hop : op.op = .slice t (.tmp s) none hi none) (hxs : M s = .fr E k) (hhi : bndO M hi = some (some 0)) (hu : P.underlying t = some (.slice e)) (hie : P.info? e = some ie) (hsd : (s == d) = false) (hsp : (Nat.blt s OB && !pins.contains s) = true) (hd : op.dst = some d) (hok : okD N pins S d = true) : OpH P pins N op S (app S [(s, .any), (d, .t (.own E k []))]) := by
  simp only [Bool.and_eq_true, Bool.not_eq_true', List.contains_eq_mem, decide_eq_false_iff_not] at hsp
  have hsO : s < OB := by simpa using hsp.1
  have hne : s ≠ d := by simpa using hsd
  refine .of (e := [(s, _), (d, _)]) fun hN => ⟨?_, fun z hz => by
    simp at hz
    rcases hz with rfl | rfl
    · exact .inl hsO
    · exact .inl (okD_lo hN hok)⟩
  refine ok_of_run fun w0 m0 o0 G a w m o hN' I => ?_
  obtain ⟨h1, h2, h3⟩ := okD_iff (okD_hx hN hok)
  have hSs : hx S s = .fr E k := by
    rcases hM s with h | h
    · rw [h] at hxs; cases hxs
    · exact hx_of (h.symm.trans hxs) (by simp)
  have hs := I.slots s
  rw [hSs] at hs
  obtain ⟨g, n, cap, cur, q1, q2, q3, q4, q5, q6, q7⟩ := hs
  obtain ⟨kh, e2⟩ := bndO_eq hM.hx I hhi
  have I1 := I.tell s .any (by rw [hSs]; rfl) trivial
  have I2 := I1.unown (g := g) hsO hsp.2 (upd_same _ _ _) q2
  have hev : a.eval (.tmp s) = .slice (some ⟨g, 0, none⟩) n cap := q1
  have hb : (Instr.sliceBounds true n cap none ((some (0 : Int)).map fun z => .int (kh z) z) none).run P w = .ok (0, 0, cap) w := by
    unfold Instr.sliceBounds
    simp only [Option.map_some, Option.isSome_some, Sem.run_bind, Sem.run_pure, Result.andThen_ok]
    repeat (rw [run_sliceBound_ok (by omega) (by omega), Result.andThen_ok])
    rfl
  refine ⟨.slice (some ⟨g, 0, none⟩) 0 cap, w, _, _, ?_, by
    rw [hd]
    refine I2.own_put d (.t (.own E k [])) (.slice (some ⟨g, 0, none⟩) 0 cap) (fun _ => none) g w (by omega) (by rw [upd_other (Ne.symm hne)]; exact h2) h3 (fun l h => by simp at h) (I.own g _ q2) (Same.refl _ _) (I.lt g _ q2) (fun p u h => by rw [q3] at h; cases h) (fun p u h => by cases h) ?_
    refine ⟨some ⟨g, 0, none⟩, cap, [], rfl, ⟨by simp, .inr ⟨g, cap, cur, rfl, Nat.zero_le _, q4, Nat.zero_le _, q6, q7, by simp⟩⟩, fun g' hg' => ?_, fun i r h => by simp at h, fun i r j d h => by simp at h⟩
    injection hg' with hg'
    subst hg'
    exact ⟨newO_same _ _ _, fun p => newM_same _ _ _ _⟩⟩
  unfold execOp
  rw [hop]
  simp only [Sem.run_bind]
  rw [e2, hev]
  show Result.andThen (Sem.run P (Instr.sliceAt t _ none _ none) w) _ = _
  unfold Instr.sliceAt
  simp only [Sem.run_bind, run_underlying hu, Result.andThen_ok]
  unfold Instr.slice
  simp only [Sem.run_bind, run_underlying hu, Result.andThen_ok]
  rw [hb]
  by_cases hc : cap = 0
  · simp [sizeOf, typeInfo, hie, hc]
  · simp [sizeOf, typeInfo, hie, hc, Addr.add_mid]
end
end Go.Proofs.Ytjomnccladjpgaa

/-
  Models of functions: printed by a program of this claim's own (gen.py) off the given translation.
-/
namespace Go.Proofs.Ytjomnccladjpgaa
open Go Go.RowKit
set_option linter.unusedVariables false
structure S_disk_write where
  n_ : Int
  b_ : (List UInt8)

structure S_disk_Disk where
  kept_ : (Nat × Nat)
  now_ : (Nat × Nat)
  wait_ : (List S_disk_write)
  fuse_ : Int
  off_ : Bool
  lives_ : Int

abbrev cA64_cU8 (x : List UInt8) : List D := ar cU8 (0 : UInt8) x 0 64

abbrev cS_disk_write (x : S_disk_write) : List D := [D.lit (.int .i64 x.n_)] ++ ar cU8 (0 : UInt8) x.b_ 0 64

structure S_wal_Log where
  d_ : (Option Nat)
  size_ : Int
  base_ : Int
  slot_ : Int
  used_ : Int
  life_ : Int
  commits_ : Int

abbrev hc_dk (i : Nat) (x : S_disk_Disk) : List T := [.hvw (cd 2 x.kept_.1) 0 119 64 x.kept_.2, .hvw (cd 2 x.now_.1) 0 119 64 x.now_.2, .own 121 65 (List.map cS_disk_write x.wait_), .d (.lit (.int .i64 x.fuse_)), .d (.lit (.bool x.off_)), .d (.lit (.int .i64 x.lives_))]

abbrev hc_lg (i : Nat) (x : S_wal_Log) : List T := [(ptT 1 x.d_), .d (.lit (.int .i64 x.size_)), .d (.lit (.int .i64 x.base_)), .d (.lit (.int .i64 x.slot_)), .d (.lit (.int .i64 x.used_)), .d (.lit (.int .i64 x.life_)), .d (.lit (.int .i64 x.commits_))]

abbrev hc_sec (_ : Nat) (x : (List (List UInt8))) : List T := fl (dT cA64_cU8) x

/-- What is behind addresses: objects, kind by kind. -/
structure Hp where
  dk : List S_disk_Disk
  lg : List S_wal_Log
  sec : List (List (List UInt8))

def Hp.e : Hp := ⟨[], [], []⟩

abbrev Hp.ge_dk (H : Hp) (i : Nat) : Option S_disk_Disk := H.dk[i]?
def Hp.st_dk (H : Hp) (i : Nat) (x : S_disk_Disk) : Hp := { H with dk := H.dk.set i x }
def Hp.nw_dk (H : Hp) (x : S_disk_Disk) : Hp := { H with dk := H.dk ++ [x] }
abbrev Hp.ln_dk (H : Hp) : Nat := H.dk.length

abbrev Hp.ge_lg (H : Hp) (i : Nat) : Option S_wal_Log := H.lg[i]?
def Hp.st_lg (H : Hp) (i : Nat) (x : S_wal_Log) : Hp := { H with lg := H.lg.set i x }
def Hp.nw_lg (H : Hp) (x : S_wal_Log) : Hp := { H with lg := H.lg ++ [x] }
abbrev Hp.ln_lg (H : Hp) : Nat := H.lg.length

abbrev Hp.ge_sec (H : Hp) (i : Nat) : Option (List (List UInt8)) := H.sec[i]?
def Hp.st_sec (H : Hp) (i : Nat) (x : (List (List UInt8))) : Hp := { H with sec := H.sec.set i x }
def Hp.nw_sec (H : Hp) (x : (List (List UInt8))) : Hp := { H with sec := H.sec ++ [x] }
abbrev Hp.ln_sec (H : Hp) : Nat := H.sec.length

def hpT (H : Hp) : Nat → Nat → A
  | 1, i => arA H.dk hc_dk i
  | 2, i => arA H.sec hc_sec i
  | 3, i => arA H.lg hc_lg i
  | _, _ => .free
def hpA (H : Hp) : Nat → A := hpF (hpT H)

theorem gl_dk {H : Hp} {i : Nat} {x : S_disk_Disk} (h : H.ge_dk i = some x) : hpA H (cd 1 i) = .box (hc_dk i x) := (hpF_cd (by decide)).trans (arA_get h)

theorem su_dk {H : Hp} {i : Nat} {x x' : S_disk_Disk} (h : H.ge_dk i = some x) : hpA (H.st_dk i x') = updF (hpA H) (cd 1 i) (.box (hc_dk i x')) := by
  refine hpF_upd (by decide) (arA_eq h) fun t' j hne => ?_
  match t' with
  | 0 => exact rfl
  | 1 => exact arA_ne fun e => hne ⟨rfl, e⟩
  | 2 => exact rfl
  | 3 => exact rfl
  | k + 4 => rfl

theorem su2_dk {H : Hp} {i : Nat} {x x' : S_disk_Disk} {y : A} (h : H.ge_dk i = some x) : hpA (H.st_dk i x') = updF (updF (hpA H) (cd 1 i) y) (cd 1 i) (.box (hc_dk i x')) := by
  rw [su_dk h]
  funext k
  unfold updF
  split <;> rfl

theorem fr_dk (H : Hp) : hpA H (cd 1 H.ln_dk) = .free := (hpF_cd (by decide)).trans arA_free

theorem nw_dk (H : Hp) (x : S_disk_Disk) : hpA (H.nw_dk x) = updF (hpA H) (cd 1 H.ln_dk) (.box (hc_dk H.ln_dk x)) := by
  refine hpF_upd (by decide) arA_new fun t' j hne => ?_
  match t' with
  | 0 => exact rfl
  | 1 => exact arA_old fun e => hne ⟨rfl, e⟩
  | 2 => exact rfl
  | 3 => exact rfl
  | k + 4 => rfl

theorem gl_lg {H : Hp} {i : Nat} {x : S_wal_Log} (h : H.ge_lg i = some x) : hpA H (cd 3 i) = .box (hc_lg i x) := (hpF_cd (by decide)).trans (arA_get h)

theorem su_lg {H : Hp} {i : Nat} {x x' : S_wal_Log} (h : H.ge_lg i = some x) : hpA (H.st_lg i x') = updF (hpA H) (cd 3 i) (.box (hc_lg i x')) := by
  refine hpF_upd (by decide) (arA_eq h) fun t' j hne => ?_
  match t' with
  | 0 => exact rfl
  | 1 => exact rfl
  | 2 => exact rfl
  | 3 => exact arA_ne fun e => hne ⟨rfl, e⟩
  | k + 4 => rfl

theorem fr_lg (H : Hp) : hpA H (cd 3 H.ln_lg) = .free := (hpF_cd (by decide)).trans arA_free

theorem nw_lg (H : Hp) (x : S_wal_Log) : hpA (H.nw_lg x) = updF (hpA H) (cd 3 H.ln_lg) (.box (hc_lg H.ln_lg x)) := by
  refine hpF_upd (by decide) arA_new fun t' j hne => ?_
  match t' with
  | 0 => exact rfl
  | 1 => exact rfl
  | 2 => exact rfl
  | 3 => exact arA_old fun e => hne ⟨rfl, e⟩
  | k + 4 => rfl

theorem gl_sec {H : Hp} {i : Nat} {x : (List (List UInt8))} (h : H.ge_sec i = some x) : hpA H (cd 2 i) = .box (hc_sec i x) := (hpF_cd (by decide)).trans (arA_get h)

theorem su_sec {H : Hp} {i : Nat} {x x' : (List (List UInt8))} (h : H.ge_sec i = some x) : hpA (H.st_sec i x') = updF (hpA H) (cd 2 i) (.box (hc_sec i x')) := by
  refine hpF_upd (by decide) (arA_eq h) fun t' j hne => ?_
  match t' with
  | 0 => exact rfl
  | 1 => exact rfl
  | 2 => exact arA_ne fun e => hne ⟨rfl, e⟩
  | 3 => exact rfl
  | k + 4 => rfl

theorem fr_sec (H : Hp) : hpA H (cd 2 H.ln_sec) = .free := (hpF_cd (by decide)).trans arA_free

theorem nw_sec (H : Hp) (x : (List (List UInt8))) : hpA (H.nw_sec x) = updF (hpA H) (cd 2 H.ln_sec) (.box (hc_sec H.ln_sec x)) := by
  refine hpF_upd (by decide) arA_new fun t' j hne => ?_
  match t' with
  | 0 => exact rfl
  | 1 => exact rfl
  | 2 => exact arA_old fun e => hne ⟨rfl, e⟩
  | 3 => exact rfl
  | k + 4 => rfl

theorem pure_hpA (H : Hp) : pureH (hpA H) := hpF_pure fun t i l h => by
  match t, h with
  | 0, h => exact nomatch h
  | 1, h => exact arA_pure (f := hc_dk) (fun i x y hy => by
      simp only [hc_dk, List.mem_cons, List.not_mem_nil, or_false] at hy
      rcases hy with rfl | rfl | rfl | rfl | rfl | rfl <;> first | rfl | exact ptT_loc _ _) l h
  | 2, h => exact arA_pure (f := hc_sec) (fun i x => fl_loc _ _) l h
  | 3, h => exact arA_pure (f := hc_lg) (fun i x y hy => by
      simp only [hc_lg, List.mem_cons, List.not_mem_nil, or_false] at hy
      rcases hy with rfl | rfl | rfl | rfl | rfl | rfl | rfl <;> first | rfl | exact ptT_loc _ _) l h
  | k + 4, h => exact nomatch h

theorem san_hpA (H : Hp) (c : Nat) : san (hpA H c) = hpA H c := by
  show san (hpT H (c % 64) (c / 64)) = hpT H (c % 64) (c / 64)
  generalize c % 64 = t
  match t with
  | 0 => exact rfl
  | 1 => exact san_arA _ _ _
  | 2 => exact san_arA _ _ _
  | 3 => exact san_arA _ _ _
  | k + 4 => rfl

theorem rn_hpA (H : Hp) (j c k : Nat) : rnA j c (hpA H k) = hpA H k := rn_pure (fun l e => pure_hpA H k l e) (san_hpA H k) j c
theorem hpA_e (c : Nat) : san (hpA Hp.e c) = .free := by
  rw [san_hpA]
  show hpT Hp.e (c % 64) (c / 64) = .free
  generalize c % 64 = t
  match t with
  | 0 => exact rfl
  | 1 => exact rfl
  | 2 => exact rfl
  | 3 => exact rfl
  | k + 4 => rfl

structure S_api_Write where
  Home : Int
  Data : (List UInt8)

abbrev cS_api_Write (x : S_api_Write) : List D := [.lit (.int .i64 x.Home), .seq 1 (bytesD x.Data)]

structure S_wal_entry where
  kind_ : Int
  number_ : Int
  data_ : (List UInt8)
  ok_ : Bool

abbrev cS_wal_entry (x : S_wal_entry) : List D := [.lit (.int .i64 x.kind_), .lit (.int .i64 x.number_), .seq 1 (bytesD x.data_), .lit (.bool x.ok_)]

/-- bastille/disk.New -/
def m_disk_New (p0 : Int) (w0 : Hp) : Option ((Option Nat) × Int × Hp) :=
bif (decide (p0 < 1)) then (some (none, 2, w0)) else (bif (decide (p0 > 16384)) then (some (none, 2, w0)) else (Option.bind (mkI 64 p0) fun x3 =>
Option.bind (mkI 64 p0) fun x5 =>
some ((some ((w0.nw_sec (List.replicate x3 ([] : (List UInt8)))).nw_sec (List.replicate x5 ([] : (List UInt8)))).ln_dk), 0, (((w0.nw_sec (List.replicate x3 ([] : (List UInt8)))).nw_sec (List.replicate x5 ([] : (List UInt8)))).nw_dk (S_disk_Disk.mk (w0.ln_sec, x3) ((w0.nw_sec (List.replicate x3 ([] : (List UInt8)))).ln_sec, x5) [] (-1) false 0)))))

/-- (*bastille/disk.Disk).is -/
def m_disk_Disk_is (p0 : (Option Nat)) (w0 : Hp) : Option Bool :=
ptM p0 (some false) (fun i2 =>
Option.bind (w0.ge_dk i2) fun x3 =>
some (decide ((x3.now_.2 : Int) > 0)))

/-- (*bastille/disk.Disk).Fuse -/
def m_disk_Disk_Fuse (p0 : (Option Nat)) (p1 : Int) (w0 : Hp) : Option Hp :=
Option.bind (m_disk_Disk_is p0 w0) fun x1 =>
bif x1 then (ptM p0 (none) (fun i5 =>
Option.bind (w0.ge_dk i5) fun x6 =>
some (w0.st_dk i5 (S_disk_Disk.mk x6.kept_ x6.now_ x6.wait_ (if (-1) > p1 then (-1) else p1) x6.off_ x6.lives_)))) else (some w0)

/-- (*bastille/disk.Disk).may -/
def m_disk_Disk_may (p0 : (Option Nat)) (p1 : Int) (w0 : Hp) : Option Int :=
Option.bind (m_disk_Disk_is p0 w0) fun x1 =>
bif (!x1) then (some 1) else (ptM p0 (none) (fun i5 =>
Option.bind (w0.ge_dk i5) fun x6 =>
bif x6.off_ then (some 30) else (bif (decide (p1 < 0)) then (some 31) else (bif (decide (p1 ≥ (x6.now_.2 : Int))) then (some 31) else (some 0)))))

/-- (*bastille/disk.Disk).burn -/
def m_disk_Disk_burn (p0 : (Option Nat)) (w0 : Hp) : Option (Bool × Hp) :=
ptM p0 (none) (fun i2 =>
Option.bind (w0.ge_dk i2) fun x3 =>
bif (decide (x3.fuse_ < 0)) then (some (false, w0)) else (some ((S_disk_Disk.mk x3.kept_ x3.now_ x3.wait_ (wi (((S_disk_Disk.mk x3.kept_ x3.now_ x3.wait_ x3.fuse_ (x3.fuse_ == 0) x3.lives_).fuse_) - 1)) (x3.fuse_ == 0) x3.lives_).off_, ((w0.st_dk i2 (S_disk_Disk.mk x3.kept_ x3.now_ x3.wait_ x3.fuse_ (x3.fuse_ == 0) x3.lives_)).st_dk i2 (S_disk_Disk.mk x3.kept_ x3.now_ x3.wait_ (wi (((S_disk_Disk.mk x3.kept_ x3.now_ x3.wait_ x3.fuse_ (x3.fuse_ == 0) x3.lives_).fuse_) - 1)) (x3.fuse_ == 0) x3.lives_)))))

/-- (*bastille/disk.Disk).Write -/
def m_disk_Disk_Write (p0 : (Option Nat)) (p1 : Int) (p2 : (List UInt8)) (w0 : Hp) : Option (Int × Hp) :=
Option.bind (m_disk_Disk_may p0 p1 w0) fun x1 =>
bif (x1 != 0) then (some (x1, w0)) else (bif ((p2.length : Int) != 64) then (some (2, w0)) else (Option.bind (s2aI 64 p2) fun x5 =>
ptM p0 (none) (fun i8 =>
Option.bind (w0.ge_dk i8) fun x9 =>
Option.bind (appI 72 x9.wait_ [(S_disk_write.mk p1 x5)]) fun x11 =>
Option.bind ((w0.st_dk i8 (S_disk_Disk.mk x9.kept_ x9.now_ x11 x9.fuse_ x9.off_ x9.lives_)).ge_sec (((S_disk_Disk.mk x9.kept_ x9.now_ x11 x9.fuse_ x9.off_ x9.lives_).now_).1)) fun x13 =>
Option.bind (lenI x13.length ((S_disk_Disk.mk x9.kept_ x9.now_ x11 x9.fuse_ x9.off_ x9.lives_).now_).2) fun x15 =>
Option.bind (idx x13 p1) fun x17 =>
Option.bind (m_disk_Disk_burn (some i8) ((w0.st_dk i8 (S_disk_Disk.mk x9.kept_ x9.now_ x11 x9.fuse_ x9.off_ x9.lives_)).st_sec (((S_disk_Disk.mk x9.kept_ x9.now_ x11 x9.fuse_ x9.off_ x9.lives_).now_).1) (x13.set (Int.toNat p1) x5))) fun x19 =>
bif x19.1 then (some (30, x19.2)) else (some (0, x19.2)))))

/-- (*bastille/disk.Disk).Size -/
def m_disk_Disk_Size (p0 : (Option Nat)) (w0 : Hp) : Option Int :=
Option.bind (m_disk_Disk_is p0 w0) fun x1 =>
bif (!x1) then (some 0) else (ptM p0 (none) (fun i5 =>
Option.bind (w0.ge_dk i5) fun x6 =>
some (x6.now_.2 : Int)))

/-- bastille/wal.room -/
def m_wal_room (p0 : (Option Nat)) (p1 : Int) (w0 : Hp) : Option Bool :=
bif (decide (p1 ≥ 3)) then (Option.bind (m_disk_Disk_Size p0 w0) fun x2 =>
some (decide (p1 ≤ (wi ((wi (x2 - 2)) - 1))))) else (some false)

/-- (*bastille/disk.Disk).Flush -/
def m_disk_Disk_Flush_j1 (p0 : (Option Nat)) (y7 : Hp) : Option (Int × Hp) :=
ptM p0 (none) (fun i9 =>
Option.bind (y7.ge_dk i9) fun x10 =>
some (0, (y7.st_dk i9 (S_disk_Disk.mk x10.kept_ x10.now_ [] x10.fuse_ x10.off_ x10.lives_))))

def m_disk_Disk_Flush_l2 (x14 : S_disk_Disk) (i13 : Nat) (p0 : (Option Nat)) : Nat → Int → Hp → Option (Int × Hp)
  | 0, _, _ => none
  | nl2 + 1, z16, z17 =>
    bif (decide (z16 < (x14.wait_.length : Int))) then (Option.bind (idx x14.wait_ z16) fun x19 =>
    Option.bind (z17.ge_dk i13) fun x21 =>
    Option.bind (z17.ge_sec x21.kept_.1) fun x23 =>
    Option.bind (lenI x23.length x21.kept_.2) fun x25 =>
    Option.bind (idx x23 x19.n_) fun x27 =>
    (m_disk_Disk_Flush_l2 x14 i13 p0 nl2) (wi (z16 + 1)) (z17.st_sec x21.kept_.1 (x23.set (Int.toNat x19.n_) x19.b_))) else (m_disk_Disk_Flush_j1 p0 z17)

def m_disk_Disk_Flush (p0 : (Option Nat)) (w0 : Hp) : Option (Int × Hp) :=
Option.bind (m_disk_Disk_may p0 0 w0) fun x1 =>
bif (x1 != 0) then (some (x1, w0)) else (Option.bind (m_disk_Disk_burn p0 w0) fun x4 =>
bif x4.1 then (some (30, x4.2)) else (ptM p0 (none) (fun i13 =>
Option.bind (x4.2.ge_dk i13) fun x14 =>
m_disk_Disk_Flush_l2 x14 i13 p0 (x14.wait_.length + 1) 0 x4.2)))

/-- bastille/wal.put -/
def m_wal_put_v0 (p0 : (List UInt8)) (o0 n0 : Nat) (p1 : Int) : Option (List UInt8) :=
Option.bind (m_word_Put p1 ((n0 : Nat) : Int)) fun x1 =>
Option.bind (cpyI p0 o0 n0 x1.1) fun x3 =>
Option.bind (lenI x3.length p0.length) fun x5 =>
some x3

/-- bastille/wal.slotBytes -/
def m_wal_slotBytes (p0 : Int) (p1 : Int) : Option (List UInt8) :=
Option.bind (mkI 1 64) fun x1 =>
Option.bind (vcut x1 0 8) fun x3 =>
Option.bind (m_wal_put_v0 (List.replicate x1 (0 : UInt8)) (0 + Int.toNat 0 * 1) (Int.toNat 8 - Int.toNat 0) p0) fun x5 =>
Option.bind (lenI x5.length (List.replicate x1 (0 : UInt8)).length) fun x7 =>
Option.bind (vcut x1 8 12) fun x9 =>
Option.bind (m_wal_put_v0 x5 (0 + Int.toNat 8 * 1) (Int.toNat 12 - Int.toNat 8) p1) fun x11 =>
Option.bind (lenI x11.length x5.length) fun x13 =>
Option.bind (vcut x1 56 (x1 : Int)) fun x15 =>
Option.bind (m_wal_put_v0 x11 (0 + Int.toNat 56 * 1) (Int.toNat (x1 : Int) - Int.toNat 56) p0) fun x17 =>
Option.bind (lenI x17.length x11.length) fun x19 =>
some x17

/-- bastille/wal.Format -/
def m_wal_Format_j1 (p0 : (Option Nat)) (p1 : Int) (y7 : Hp) : Option (Int × Hp) :=
Option.bind (m_disk_Disk_Flush p0 y7) fun x8 =>
bif (x8.1 != 0) then (some (x8.1, x8.2)) else (Option.bind (m_wal_slotBytes 1 p1) fun x11 =>
Option.bind (m_disk_Disk_Write p0 0 x11 x8.2) fun x13 =>
bif (x13.1 != 0) then (some (x13.1, x13.2)) else (Option.bind (m_disk_Disk_Flush p0 x13.2) fun x16 =>
some (x16.1, x16.2)))

def m_wal_Format_l2 (p1 : Int) (p0 : (Option Nat)) : Nat → Int → Hp → Option (Int × Hp)
  | 0, _, _ => none
  | nl2 + 1, z18, z19 =>
    bif (decide (z18 < (wi (2 + p1)))) then (Option.bind (mkI 1 64) fun x21 =>
    Option.bind (m_disk_Disk_Write p0 z18 (List.replicate x21 (0 : UInt8)) z19) fun x23 =>
    bif (x23.1 != 0) then (some (x23.1, x23.2)) else ((m_wal_Format_l2 p1 p0 nl2) (wi (z18 + 1)) x23.2)) else (m_wal_Format_j1 p0 p1 z19)

def m_wal_Format (p0 : (Option Nat)) (p1 : Int) (w0 : Hp) : Option (Int × Hp) :=
Option.bind (m_disk_Disk_Size p0 w0) fun x1 =>
bif (x1 == 0) then (some (1, w0)) else (Option.bind (m_wal_room p0 p1 w0) fun x4 =>
bif (!x4) then (some (2, w0)) else (m_wal_Format_l2 p1 p0 (Int.toNat (wi (2 + p1)) + 1) 1 w0))

/-- (*bastille/disk.Disk).Off -/
def m_disk_Disk_Off (p0 : (Option Nat)) (w0 : Hp) : Option Bool :=
Option.bind (m_disk_Disk_is p0 w0) fun x1 =>
bif x1 then (ptM p0 (none) (fun i5 =>
Option.bind (w0.ge_dk i5) fun x6 =>
some x6.off_)) else (some false)

/-- (*bastille/disk.Disk).Lives -/
def m_disk_Disk_Lives (p0 : (Option Nat)) (w0 : Hp) : Option Int :=
Option.bind (m_disk_Disk_is p0 w0) fun x1 =>
bif (!x1) then (some 0) else (ptM p0 (none) (fun i5 =>
Option.bind (w0.ge_dk i5) fun x6 =>
some x6.lives_))

/-- (*bastille/disk.Disk).Read -/
def m_disk_Disk_Read (p0 : (Option Nat)) (p1 : Int) (w0 : Hp) : Option ((List UInt8) × Int) :=
Option.bind (m_disk_Disk_may p0 p1 w0) fun x1 =>
bif (x1 != 0) then (some ([], x1)) else (ptM p0 (none) (fun i5 =>
Option.bind (w0.ge_dk i5) fun x6 =>
Option.bind (w0.ge_sec x6.now_.1) fun x8 =>
Option.bind (lenI x8.length x6.now_.2) fun x10 =>
Option.bind (idx x8 p1) fun x12 =>
some ((padA (0 : UInt8) x12 0 64), 0)))

/-- bastille/word.Get -/
def m_word_Get_j1 (y3 : Int) : Option (Int × Int) :=
bif (decide (y3 > 4611686018427387904)) then (some (0, 11)) else (some ((wi y3), 0))

def m_word_Get_l2 (p0 : (List UInt8)) : Nat → Int → Int → Option (Int × Int)
  | 0, _, _ => none
  | nl2 + 1, z5, z6 =>
    bif (decide (z6 < (p0.length : Int))) then (Option.bind (idx p0 z6) fun x8 =>
    (m_word_Get_l2 p0 nl2) (IntKind.u64.wrap ((((BitVec.ofInt IntKind.u64.bits (IntKind.u64.wrap (z5 * 2 ^ 8))) ||| (BitVec.ofInt IntKind.u64.bits (x8.toNat : Int))).toNat : Nat) : Int)) (wi (z6 + 1))) else (m_word_Get_j1 z5)

def m_word_Get (p0 : (List UInt8)) : Option (Int × Int) :=
bif ((p0.length : Int) == 0) then (some (0, 10)) else (bif (decide ((p0.length : Int) > 8)) then (some (0, 2)) else (m_word_Get_l2 p0 (p0.length + 1) 0 0))

/-- slices.IndexFunc[[]byte,byte] -/
def m_slices_IndexFunc_byte_l1 (p0 : (List UInt8)) (p1 : (UInt8 → Option Bool)) : Nat → Int → Option Int
  | 0, _ => none
  | nl1 + 1, z1 =>
    bif (decide (z1 < (p0.length : Int))) then (Option.bind (idx p0 z1) fun x3 =>
    Option.bind (p1 x3) fun x5 =>
    bif x5 then (some z1) else ((m_slices_IndexFunc_byte_l1 p0 p1 nl1) (wi (z1 + 1)))) else (some (-1))

def m_slices_IndexFunc_byte (p0 : (List UInt8)) (p1 : (UInt8 → Option Bool)) : Option Int :=
m_slices_IndexFunc_byte_l1 p0 p1 (p0.length + 1) 0

/-- slices.ContainsFunc[[]byte,byte] -/
def m_slices_ContainsFunc_byte (p0 : (List UInt8)) (p1 : (UInt8 → Option Bool)) : Option Bool :=
Option.bind (m_slices_IndexFunc_byte p0 p1) fun x1 =>
some (decide (x1 ≥ 0))

/-- bastille/wal.noughts$1 -/
def m_wal_noughts_c1 (p0 : UInt8) : Option Bool :=
some ((p0.toNat : Int) != 0)

/-- bastille/wal.noughts -/
def m_wal_noughts (p0 : (List UInt8)) : Option Bool :=
Option.bind (m_slices_ContainsFunc_byte p0 m_wal_noughts_c1) fun x1 =>
some (!x1)

/-- bastille/wal.readSlot -/
def m_wal_readSlot (p0 : (Option Nat)) (p1 : Int) (w0 : Hp) : Option (Int × Int × Bool) :=
Option.bind (m_disk_Disk_Read p0 p1 w0) fun x1 =>
bif (x1.2 != 0) then (some (0, 0, false)) else (Option.bind (cutI x1.1 0 8) fun x4 =>
Option.bind (m_word_Get x4) fun x6 =>
Option.bind (cutI x1.1 56 (x1.1.length : Int)) fun x8 =>
Option.bind (m_word_Get x8) fun x10 =>
Option.bind (cutI x1.1 8 12) fun x12 =>
Option.bind (m_word_Get x12) fun x14 =>
bif (x6.2 != 0) then (some (0, 0, false)) else (bif (x10.2 != 0) then (some (0, 0, false)) else (bif (x14.2 != 0) then (some (0, 0, false)) else (bif (x6.1 != x10.1) then (some (0, 0, false)) else (bif (decide (x6.1 < 1)) then (some (0, 0, false)) else (bif (decide (x6.1 > 2305843009213693952)) then (some (0, 0, false)) else (Option.bind (m_wal_room p0 x14.1 w0) fun x22 =>
bif (!x22) then (some (0, 0, false)) else (Option.bind (cutI x1.1 12 56) fun x25 =>
Option.bind (m_wal_noughts x25) fun x27 =>
bif (!x27) then (some (0, 0, false)) else (some (x6.1, x14.1, true))))))))))

/-- (*bastille/wal.Log).home -/
def m_wal_Log_home (p0 : (Option Nat)) (p1 : Int) (w0 : Hp) : Option Int :=
ptM p0 (none) (fun i2 =>
Option.bind (w0.ge_lg i2) fun x3 =>
some (wi ((wi (2 + x3.size_)) + p1)))

/-- (*bastille/wal.Log).redo -/
def m_wal_Log_redo_l1 (p1 : (List S_api_Write)) (p0 : (Option Nat)) : Nat → Int → Hp → Option (Int × Hp)
  | 0, _, _ => none
  | nl1 + 1, z1, z2 =>
    bif (decide (z1 < (p1.length : Int))) then (Option.bind (idx p1 z1) fun x4 =>
    ptM p0 (none) (fun i7 =>
    Option.bind (z2.ge_lg i7) fun x8 =>
    Option.bind (m_wal_Log_home (some i7) x4.Home z2) fun x10 =>
    Option.bind (m_disk_Disk_Write x8.d_ x10 x4.Data z2) fun x12 =>
    bif (x12.1 != 0) then (some (x12.1, x12.2)) else ((m_wal_Log_redo_l1 p1 p0 nl1) (wi (z1 + 1)) x12.2))) else (some (0, z2))

def m_wal_Log_redo (p0 : (Option Nat)) (p1 : (List S_api_Write)) (w0 : Hp) : Option (Int × Hp) :=
m_wal_Log_redo_l1 p1 p0 (p1.length + 1) 0 w0

/-- (*bastille/wal.Log).Homes -/
def m_wal_Log_Homes (p0 : (Option Nat)) (w0 : Hp) : Option Int :=
ptM p0 (some 0) (fun i2 =>
Option.bind (w0.ge_lg i2) fun x3 =>
ptM x3.d_ (some 0) (fun i6 =>
Option.bind (m_disk_Disk_Size x3.d_ w0) fun x7 =>
some (wi ((wi (x7 - 2)) - x3.size_))))

/-- bastille/wal.Sum -/
def m_wal_Sum_j1 (y1 : Int) : Option Int :=
some (IntKind.u32.wrap ((((BitVec.ofInt IntKind.u32.bits 4294967295) ^^^ (BitVec.ofInt IntKind.u32.bits y1)).toNat : Nat) : Int))

def m_wal_Sum_l4 (kl3 : Int → Int → Option Int) (z8 : Int) : Nat → Int → Int → Option Int
  | 0, _, _ => none
  | nl4 + 1, z12, z13 =>
    bif (decide (z13 < 8)) then (bif ((IntKind.u32.wrap ((((BitVec.ofInt IntKind.u32.bits z12) &&& (BitVec.ofInt IntKind.u32.bits 1)).toNat : Nat) : Int)) == 1) then ((m_wal_Sum_l4 kl3 z8 nl4) (IntKind.u32.wrap ((((BitVec.ofInt IntKind.u32.bits (Int.fdiv z12 (2 ^ 1))) ^^^ (BitVec.ofInt IntKind.u32.bits 3988292384)).toNat : Nat) : Int)) (wi (z13 + 1))) else ((m_wal_Sum_l4 kl3 z8 nl4) (Int.fdiv z12 (2 ^ 1)) (wi (z13 + 1)))) else (kl3 z12 (wi (z8 + 1)))

def m_wal_Sum_l3 (kl2 : Int → Int → Option Int) (x5 : (List UInt8)) (z3 : Int) : Nat → Int → Int → Option Int
  | 0, _, _ => none
  | nl3 + 1, z7, z8 =>
    bif (decide (z8 < (x5.length : Int))) then (Option.bind (idx x5 z8) fun x10 =>
    m_wal_Sum_l4 (m_wal_Sum_l3 kl2 x5 z3 nl3) z8 (Int.toNat 8 + 1) (IntKind.u32.wrap ((((BitVec.ofInt IntKind.u32.bits z7) ^^^ (BitVec.ofInt IntKind.u32.bits (x10.toNat : Int))).toNat : Nat) : Int)) 0) else (kl2 z7 (wi (z3 + 1)))

def m_wal_Sum_l2 (p0 : (List (List UInt8))) : Nat → Int → Int → Option Int
  | 0, _, _ => none
  | nl2 + 1, z2, z3 =>
    bif (decide (z3 < (p0.length : Int))) then (Option.bind (idx p0 z3) fun x5 =>
    m_wal_Sum_l3 (m_wal_Sum_l2 p0 nl2) x5 z3 (x5.length + 1) z2 0) else (m_wal_Sum_j1 z2)

def m_wal_Sum (p0 : (List (List UInt8))) : Option Int :=
m_wal_Sum_l2 p0 (p0.length + 1) 4294967295 0

/-- (bastille/wal.entry).bytes -/
def m_wal_entry_bytes (p0 : S_wal_entry) (p1 : Int) : Option (List UInt8) :=
Option.bind (mkI 1 64) fun x1 =>
Option.bind (idx (List.replicate x1 (0 : UInt8)) 0) fun x3 =>
Option.bind (vcut x1 1 5) fun x5 =>
Option.bind (m_wal_put_v0 ((List.replicate x1 (0 : UInt8)).set (Int.toNat 0) (U8 p0.kind_)) (0 + Int.toNat 1 * 1) (Int.toNat 5 - Int.toNat 1) p0.number_) fun x7 =>
Option.bind (lenI x7.length ((List.replicate x1 (0 : UInt8)).set (Int.toNat 0) (U8 p0.kind_)).length) fun x9 =>
Option.bind (vcut x1 5 37) fun x11 =>
Option.bind (cpyI x7 (0 + Int.toNat 5 * 1) (Int.toNat 37 - Int.toNat 5) p0.data_) fun x13 =>
Option.bind (lenI x13.length x7.length) fun x15 =>
Option.bind (vcut x1 56 (x1 : Int)) fun x17 =>
Option.bind (m_wal_put_v0 x13 (0 + Int.toNat 56 * 1) (Int.toNat (x1 : Int) - Int.toNat 56) p1) fun x19 =>
Option.bind (lenI x19.length x13.length) fun x21 =>
Option.bind (vcut x1 52 56) fun x23 =>
Option.bind (vcut x1 0 52) fun x25 =>
Option.bind (vcut x1 56 (x1 : Int)) fun x27 =>
Option.bind (pieceI x19 (0 + Int.toNat 0 * 1) (Int.toNat 52 - Int.toNat 0)) fun x29 =>
Option.bind (pieceI x19 (0 + Int.toNat 56 * 1) (Int.toNat (x1 : Int) - Int.toNat 56)) fun x31 =>
Option.bind (m_wal_Sum [x29, x31]) fun x33 =>
Option.bind (m_wal_put_v0 x19 (0 + Int.toNat 52 * 1) (Int.toNat 56 - Int.toNat 52) (wi x33)) fun x35 =>
Option.bind (lenI x35.length x19.length) fun x37 =>
some x35

/-- slices.Equal[[]byte,byte] -/
def m_slices_Equal_byte_l1 (p0 : (List UInt8)) (p1 : (List UInt8)) : Nat → Int → Option Bool
  | 0, _ => none
  | nl1 + 1, z2 =>
    bif (decide (z2 < (p0.length : Int))) then (Option.bind (idx p0 z2) fun x4 =>
    Option.bind (idx p1 z2) fun x6 =>
    bif ((x4.toNat : Int) != (x6.toNat : Int)) then (some false) else ((m_slices_Equal_byte_l1 p0 p1 nl1) (wi (z2 + 1)))) else (some true)

def m_slices_Equal_byte (p0 : (List UInt8)) (p1 : (List UInt8)) : Option Bool :=
bif ((p0.length : Int) != (p1.length : Int)) then (some false) else (m_slices_Equal_byte_l1 p0 p1 (p0.length + 1) 0)

/-- (*bastille/wal.Log).at -/
def m_wal_Log_at (p0 : (Option Nat)) (p1 : Int) (w0 : Hp) : Option S_wal_entry :=
ptM p0 (none) (fun i2 =>
Option.bind (w0.ge_lg i2) fun x3 =>
bif (decide (p1 ≥ x3.size_)) then (some (S_wal_entry.mk 0 0 [] false)) else (Option.bind (m_disk_Disk_Read x3.d_ (wi (2 + p1)) w0) fun x6 =>
bif (x6.2 != 0) then (some (S_wal_entry.mk 0 0 [] false)) else (Option.bind (idx x6.1 0) fun x9 =>
Option.bind (cutI x6.1 5 37) fun x11 =>
Option.bind (cutI x6.1 1 5) fun x13 =>
Option.bind (m_word_Get x13) fun x15 =>
Option.bind (m_wal_entry_bytes (S_wal_entry.mk (x9.toNat : Int) x15.1 x11 false) (wi (x3.base_ + p1))) fun x17 =>
Option.bind (m_slices_Equal_byte x6.1 x17) fun x19 =>
some (S_wal_entry.mk (x9.toNat : Int) x15.1 x11 x19))))

/-- slices.Grow[[]byte,byte], of nil -/
def m_slices_Grow_byte_n0 (p1 : Int) : Option (List UInt8) :=
bif (decide (p1 < 0)) then (none) else (bif (decide ((wi (p1 - (wi (0 - 0)))) > 0)) then (Option.bind (growI 1 (wi (p1 - (wi (0 - 0))))) fun x3 =>
some []) else (some []))

/-- slices.Concat[[]byte,byte] -/
def m_slices_Concat_byte_l2 (p0 : (List (List UInt8))) : Nat → (List UInt8) → Int → Option (List UInt8)
  | 0, _, _ => none
  | nl2 + 1, z4, z5 =>
    bif (decide (z5 < (p0.length : Int))) then (Option.bind (idx p0 z5) fun x7 =>
    Option.bind (appI 1 z4 x7) fun x9 =>
    (m_slices_Concat_byte_l2 p0 nl2) x9 (wi (z5 + 1))) else (some z4)

def m_slices_Concat_byte_j1 (p0 : (List (List UInt8))) (y1 : Int) : Option (List UInt8) :=
Option.bind (m_slices_Grow_byte_n0 y1) fun x2 =>
m_slices_Concat_byte_l2 p0 (p0.length + 1) x2 0

def m_slices_Concat_byte_l3 (p0 : (List (List UInt8))) : Nat → Int → Int → Option (List UInt8)
  | 0, _, _ => none
  | nl3 + 1, z11, z12 =>
    bif (decide (z12 < (p0.length : Int))) then (Option.bind (idx p0 z12) fun x14 =>
    bif (decide ((wi (z11 + (x14.length : Int))) < 0)) then (none) else ((m_slices_Concat_byte_l3 p0 nl3) (wi (z11 + (x14.length : Int))) (wi (z12 + 1)))) else (m_slices_Concat_byte_j1 p0 z11)

def m_slices_Concat_byte (p0 : (List (List UInt8))) : Option (List UInt8) :=
m_slices_Concat_byte_l3 p0 (p0.length + 1) 0 0

/-- (*bastille/wal.Log).one -/
def m_wal_Log_one_j2 (kl1 : (List S_api_Write) → Int → Option ((List S_api_Write) × Int)) (z1 : (List S_api_Write)) (z2 : Int) (p1 : Int) (x3 : S_wal_entry) (p0 : (Option Nat)) (w0 : Hp) (y6 : Bool) : Option ((List S_api_Write) × Int) :=
bif y6 then (some (z1, (wi ((wi (z2 + 1)) - p1)))) else (bif (x3.kind_ != 1) then (some ([], 0)) else (Option.bind (m_wal_Log_Homes p0 w0) fun x9 =>
bif (decide (x3.number_ ≥ x9)) then (some ([], 0)) else (Option.bind (m_wal_Log_at p0 (wi (z2 + 1)) w0) fun x12 =>
bif (!x12.ok_) then (some ([], 0)) else (bif (x12.kind_ != 2) then (some ([], 0)) else (bif (x12.number_ != x3.number_) then (some ([], 0)) else (Option.bind (m_slices_Concat_byte [x3.data_, x12.data_]) fun x17 =>
Option.bind (appI 32 z1 [(S_api_Write.mk x3.number_ x17)]) fun x19 =>
kl1 x19 (wi (z2 + 2))))))))

def m_wal_Log_one_l1 (p0 : (Option Nat)) (w0 : Hp) (p1 : Int) : Nat → (List S_api_Write) → Int → Option ((List S_api_Write) × Int)
  | 0, _, _ => none
  | nl1 + 1, z1, z2 =>
    Option.bind (m_wal_Log_at p0 z2 w0) fun x3 =>
    bif (!x3.ok_) then (some ([], 0)) else (bif (x3.kind_ == 3) then (bif (decide ((z1.length : Int) > 0)) then (bif (x3.number_ == (z1.length : Int)) then (Option.bind (m_wal_noughts x3.data_) fun x24 =>
    m_wal_Log_one_j2 (m_wal_Log_one_l1 p0 w0 p1 nl1) z1 z2 p1 x3 p0 w0 x24) else (m_wal_Log_one_j2 (m_wal_Log_one_l1 p0 w0 p1 nl1) z1 z2 p1 x3 p0 w0 false)) else (m_wal_Log_one_j2 (m_wal_Log_one_l1 p0 w0 p1 nl1) z1 z2 p1 x3 p0 w0 false)) else (m_wal_Log_one_j2 (m_wal_Log_one_l1 p0 w0 p1 nl1) z1 z2 p1 x3 p0 w0 false))

def m_wal_Log_one (p0 : (Option Nat)) (p1 : Int) (w0 : Hp) : Option ((List S_api_Write) × Int) :=
m_wal_Log_one_l1 p0 w0 p1 (16400) [] p1

/-- (*bastille/wal.Log).says -/
def m_wal_Log_says_l1 (p0 : (Option Nat)) (w0 : Hp) : Nat → (List S_api_Write) → Int → Option (List S_api_Write)
  | 0, _, _ => none
  | nl1 + 1, z1, z2 =>
    Option.bind (m_wal_Log_one p0 z2 w0) fun x3 =>
    bif (x3.2 == 0) then (some z1) else (Option.bind (appI 32 z1 x3.1) fun x6 =>
    (m_wal_Log_says_l1 p0 w0 nl1) x6 (wi (z2 + x3.2)))

def m_wal_Log_says (p0 : (Option Nat)) (w0 : Hp) : Option (List S_api_Write) :=
m_wal_Log_says_l1 p0 w0 (16400) [] 0

/-- (*bastille/wal.Log).alive -/
def m_wal_Log_alive_j1 (p0 : (Option Nat)) (w0 : Hp) (y1 : Bool) : Option Int :=
bif y1 then (some 1) else (ptM p0 (none) (fun i4 =>
Option.bind (w0.ge_lg i4) fun x5 =>
Option.bind (m_disk_Disk_Off x5.d_ w0) fun x7 =>
bif x7 then (some 30) else (Option.bind (m_disk_Disk_Lives x5.d_ w0) fun x10 =>
bif (x10 != x5.life_) then (some 30) else (some 0))))

def m_wal_Log_alive (p0 : (Option Nat)) (w0 : Hp) : Option Int :=
ptM p0 (m_wal_Log_alive_j1 p0 w0 true) (fun i14 =>
Option.bind (w0.ge_lg i14) fun x15 =>
ptM x15.d_ (m_wal_Log_alive_j1 p0 w0 true) (fun i18 =>
m_wal_Log_alive_j1 p0 w0 false))

/-- (*bastille/wal.Log).raise -/
def m_wal_Log_raise (p0 : (Option Nat)) (w0 : Hp) : Option (Int × Hp) :=
ptM p0 (none) (fun i2 =>
Option.bind (w0.ge_lg i2) fun x3 =>
Option.bind (m_wal_slotBytes (wi (x3.base_ + x3.size_)) x3.size_) fun x5 =>
Option.bind (m_disk_Disk_Write x3.d_ (wi (1 - x3.slot_)) x5 w0) fun x7 =>
bif (x7.1 != 0) then (some (x7.1, x7.2)) else (Option.bind (x7.2.ge_lg i2) fun x10 =>
Option.bind (m_disk_Disk_Flush x10.d_ x7.2) fun x12 =>
bif (x12.1 != 0) then (some (x12.1, x12.2)) else (Option.bind (x12.2.ge_lg i2) fun x15 =>
some (0, (((x12.2.st_lg i2 (S_wal_Log.mk x15.d_ x15.size_ x15.base_ (wi (1 - x3.slot_)) x15.used_ x15.life_ x15.commits_)).st_lg i2 (S_wal_Log.mk x15.d_ x15.size_ x15.base_ (wi (1 - x3.slot_)) 0 x15.life_ x15.commits_)).st_lg i2 (S_wal_Log.mk x15.d_ x15.size_ (wi (((S_wal_Log.mk x15.d_ x15.size_ x15.base_ (wi (1 - x3.slot_)) 0 x15.life_ x15.commits_).base_) + ((S_wal_Log.mk x15.d_ x15.size_ x15.base_ (wi (1 - x3.slot_)) 0 x15.life_ x15.commits_).size_))) (wi (1 - x3.slot_)) 0 x15.life_ x15.commits_))))))

/-- (*bastille/wal.Log).Checkpoint -/
def m_wal_Log_Checkpoint (p0 : (Option Nat)) (w0 : Hp) : Option (Int × Hp) :=
Option.bind (m_wal_Log_alive p0 w0) fun x1 =>
bif (x1 != 0) then (some (x1, w0)) else (ptM p0 (none) (fun i5 =>
Option.bind (w0.ge_lg i5) fun x6 =>
bif (decide (x6.base_ > (wi (2305843009213693952 - x6.size_)))) then (some (3, w0)) else (Option.bind (m_disk_Disk_Flush x6.d_ w0) fun x9 =>
bif (x9.1 != 0) then (some (x9.1, x9.2)) else (Option.bind (m_wal_Log_raise (some i5) x9.2) fun x12 =>
some (x12.1, x12.2)))))

/-- bastille/wal.Open -/
def m_wal_Open_j1 (w0 : Hp) (y11 : Hp) : Option ((Option Nat) × Int × Hp) :=
Option.bind (y11.ge_lg w0.ln_lg) fun x12 =>
bif (x12.base_ == 0) then (some (none, 11, y11)) else (bif (decide (x12.base_ > (wi (2305843009213693952 - x12.size_)))) then (some (none, 3, y11)) else (Option.bind (m_wal_Log_says (some w0.ln_lg) y11) fun x16 =>
Option.bind (m_wal_Log_redo (some w0.ln_lg) x16 y11) fun x18 =>
bif (x18.1 != 0) then (some (none, x18.1, x18.2)) else (Option.bind (m_wal_Log_Checkpoint (some w0.ln_lg) x18.2) fun x21 =>
bif (x21.1 != 0) then (some (none, x21.1, x21.2)) else (some ((some w0.ln_lg), 0, x21.2)))))

def m_wal_Open_j3 (kl2 : Int → Hp → Option ((Option Nat) × Int × Hp)) (z25 : Hp) (w0 : Hp) (z24 : Int) (x27 : (Int × Int × Bool)) (y29 : Bool) : Option ((Option Nat) × Int × Hp) :=
bif y29 then (Option.bind (z25.ge_lg w0.ln_lg) fun x31 =>
kl2 (wi (z24 + 1)) (((z25.st_lg w0.ln_lg (S_wal_Log.mk x31.d_ x31.size_ x27.1 x31.slot_ x31.used_ x31.life_ x31.commits_)).st_lg w0.ln_lg (S_wal_Log.mk x31.d_ x27.2.1 x27.1 x31.slot_ x31.used_ x31.life_ x31.commits_)).st_lg w0.ln_lg (S_wal_Log.mk x31.d_ x27.2.1 x27.1 z24 x31.used_ x31.life_ x31.commits_))) else (kl2 (wi (z24 + 1)) z25)

def m_wal_Open_l2 (w0 : Hp) : Nat → Int → Hp → Option ((Option Nat) × Int × Hp)
  | 0, _, _ => none
  | nl2 + 1, z24, z25 =>
    bif (decide (z24 < 2)) then (Option.bind (m_wal_readSlot none z24 z25) fun x27 =>
    bif x27.2.2 then (Option.bind (z25.ge_lg w0.ln_lg) fun x34 =>
    m_wal_Open_j3 (m_wal_Open_l2 w0 nl2) z25 w0 z24 x27 (decide (x27.1 > x34.base_))) else (m_wal_Open_j3 (m_wal_Open_l2 w0 nl2) z25 w0 z24 x27 false)) else (m_wal_Open_j1 w0 z25)

def m_wal_Open_j4 (w0 : Hp) (y38 : Hp) : Option ((Option Nat) × Int × Hp) :=
Option.bind (y38.ge_lg w0.ln_lg) fun x39 =>
bif (x39.base_ == 0) then (some (none, 11, y38)) else (bif (decide (x39.base_ > (wi (2305843009213693952 - x39.size_)))) then (some (none, 3, y38)) else (Option.bind (m_wal_Log_says (some w0.ln_lg) y38) fun x43 =>
Option.bind (m_wal_Log_redo (some w0.ln_lg) x43 y38) fun x45 =>
bif (x45.1 != 0) then (some (none, x45.1, x45.2)) else (Option.bind (m_wal_Log_Checkpoint (some w0.ln_lg) x45.2) fun x48 =>
bif (x48.1 != 0) then (some (none, x48.1, x48.2)) else (some ((some w0.ln_lg), 0, x48.2)))))

def m_wal_Open_j6 (kl5 : Int → Hp → Option ((Option Nat) × Int × Hp)) (z52 : Hp) (w0 : Hp) (z51 : Int) (x54 : (Int × Int × Bool)) (y56 : Bool) : Option ((Option Nat) × Int × Hp) :=
bif y56 then (Option.bind (z52.ge_lg w0.ln_lg) fun x58 =>
kl5 (wi (z51 + 1)) (((z52.st_lg w0.ln_lg (S_wal_Log.mk x58.d_ x58.size_ x54.1 x58.slot_ x58.used_ x58.life_ x58.commits_)).st_lg w0.ln_lg (S_wal_Log.mk x58.d_ x54.2.1 x54.1 x58.slot_ x58.used_ x58.life_ x58.commits_)).st_lg w0.ln_lg (S_wal_Log.mk x58.d_ x54.2.1 x54.1 z51 x58.used_ x58.life_ x58.commits_))) else (kl5 (wi (z51 + 1)) z52)

def m_wal_Open_l5 (i8 : Nat) (w0 : Hp) : Nat → Int → Hp → Option ((Option Nat) × Int × Hp)
  | 0, _, _ => none
  | nl5 + 1, z51, z52 =>
    bif (decide (z51 < 2)) then (Option.bind (m_wal_readSlot (some i8) z51 z52) fun x54 =>
    bif x54.2.2 then (Option.bind (z52.ge_lg w0.ln_lg) fun x61 =>
    m_wal_Open_j6 (m_wal_Open_l5 i8 w0 nl5) z52 w0 z51 x54 (decide (x54.1 > x61.base_))) else (m_wal_Open_j6 (m_wal_Open_l5 i8 w0 nl5) z52 w0 z51 x54 false)) else (m_wal_Open_j4 w0 z52)

def m_wal_Open (p0 : (Option Nat)) (w0 : Hp) : Option ((Option Nat) × Int × Hp) :=
Option.bind (m_disk_Disk_Size p0 w0) fun x1 =>
bif (x1 == 0) then (some (none, 1, w0)) else (Option.bind (m_disk_Disk_Off p0 w0) fun x4 =>
bif x4 then (some (none, 30, w0)) else (ptM p0 (Option.bind (m_disk_Disk_Lives none w0) fun x9 =>
m_wal_Open_l2 w0 (Int.toNat 2 + 1) 0 (w0.nw_lg (S_wal_Log.mk none 0 0 0 0 x9 0))) (fun i8 =>
Option.bind (m_disk_Disk_Lives (some i8) w0) fun x36 =>
m_wal_Open_l5 i8 w0 (Int.toNat 2 + 1) 0 (w0.nw_lg (S_wal_Log.mk (some i8) 0 0 0 0 x36 0)))))

/-- (*bastille/wal.Log).Left -/
def m_wal_Log_Left (p0 : (Option Nat)) (w0 : Hp) : Option Int :=
ptM p0 (some 0) (fun i2 =>
Option.bind (w0.ge_lg i2) fun x3 =>
some (wi (x3.size_ - x3.used_)))

/-- bastille/wal.entries -/
def m_wal_entries_j1 (p0 : (List S_api_Write)) (y1 : (List S_wal_entry)) : Option (List S_wal_entry) :=
Option.bind (appI 48 y1 [(S_wal_entry.mk 3 (p0.length : Int) [] false)]) fun x2 =>
some x2

def m_wal_entries_l2 (p0 : (List S_api_Write)) : Nat → (List S_wal_entry) → Int → Option (List S_wal_entry)
  | 0, _, _ => none
  | nl2 + 1, z4, z5 =>
    bif (decide (z5 < (p0.length : Int))) then (Option.bind (idx p0 z5) fun x7 =>
    Option.bind (cutI x7.Data 0 32) fun x9 =>
    Option.bind (cutI x7.Data 32 (x7.Data.length : Int)) fun x11 =>
    Option.bind (appI 48 z4 [(S_wal_entry.mk 1 x7.Home x9 false), (S_wal_entry.mk 2 x7.Home x11 false)]) fun x13 =>
    (m_wal_entries_l2 p0 nl2) x13 (wi (z5 + 1))) else (m_wal_entries_j1 p0 z4)

def m_wal_entries (p0 : (List S_api_Write)) : Option (List S_wal_entry) :=
m_wal_entries_l2 p0 (p0.length + 1) [] 0

/-- (*bastille/wal.Log).Commit -/
def m_wal_Log_Commit_j3 (p0 : (Option Nat)) (p1 : (List S_api_Write)) (y5 : Hp) : Option (Int × Hp) :=
ptM p0 (none) (fun i7 =>
Option.bind (y5.ge_lg i7) fun x8 =>
Option.bind (m_disk_Disk_Flush x8.d_ y5) fun x10 =>
bif (x10.1 != 0) then (some (x10.1, x10.2)) else (Option.bind (x10.2.ge_lg i7) fun x13 =>
Option.bind (m_wal_Log_redo (some i7) p1 ((x10.2.st_lg i7 (S_wal_Log.mk x13.d_ x13.size_ x13.base_ x13.slot_ (wi (x13.used_ + (wi ((wi (2 * (p1.length : Int))) + 1)))) x13.life_ x13.commits_)).st_lg i7 (S_wal_Log.mk x13.d_ x13.size_ x13.base_ x13.slot_ (wi (x13.used_ + (wi ((wi (2 * (p1.length : Int))) + 1)))) x13.life_ (wi (((S_wal_Log.mk x13.d_ x13.size_ x13.base_ x13.slot_ (wi (x13.used_ + (wi ((wi (2 * (p1.length : Int))) + 1)))) x13.life_ x13.commits_).commits_) + 1))))) fun x15 =>
some (x15.1, x15.2)))

def m_wal_Log_Commit_l4 (x17 : (List S_wal_entry)) (p0 : (Option Nat)) (p1 : (List S_api_Write)) : Nat → Int → Hp → Option (Int × Hp)
  | 0, _, _ => none
  | nl4 + 1, z19, z20 =>
    bif (decide (z19 < (x17.length : Int))) then (Option.bind (idx x17 z19) fun x22 =>
    ptM p0 (none) (fun i25 =>
    Option.bind (z20.ge_lg i25) fun x26 =>
    Option.bind (m_wal_entry_bytes x22 (wi (x26.base_ + (wi (x26.used_ + z19))))) fun x28 =>
    Option.bind (m_disk_Disk_Write x26.d_ (wi (2 + (wi (x26.used_ + z19)))) x28 z20) fun x30 =>
    bif (x30.1 != 0) then (some (x30.1, x30.2)) else ((m_wal_Log_Commit_l4 x17 p0 p1 nl4) (wi (z19 + 1)) x30.2))) else (m_wal_Log_Commit_j3 p0 p1 z20)

def m_wal_Log_Commit_j2 (p1 : (List S_api_Write)) (p0 : (Option Nat)) (y4 : Hp) : Option (Int × Hp) :=
Option.bind (m_wal_entries p1) fun x17 =>
m_wal_Log_Commit_l4 x17 p0 p1 (x17.length + 1) 0 y4

def m_wal_Log_Commit_j1 (p0 : (Option Nat)) (w0 : Hp) (p1 : (List S_api_Write)) : Option (Int × Hp) :=
ptM p0 (none) (fun i34 =>
Option.bind (w0.ge_lg i34) fun x35 =>
bif (decide ((wi ((wi (2 * (p1.length : Int))) + 1)) > x35.size_)) then (some (3, w0)) else (bif ((p1.length : Int) == 0) then (some (0, w0)) else (Option.bind (m_wal_Log_Left (some i34) w0) fun x39 =>
bif (decide ((wi ((wi (2 * (p1.length : Int))) + 1)) > x39)) then (Option.bind (m_wal_Log_Checkpoint (some i34) w0) fun x42 =>
bif (x42.1 != 0) then (some (x42.1, x42.2)) else (m_wal_Log_Commit_j2 p1 p0 x42.2)) else (m_wal_Log_Commit_j2 p1 p0 w0))))

def m_wal_Log_Commit_l5 (p1 : (List S_api_Write)) (w0 : Hp) (p0 : (Option Nat)) : Nat → Int → Option (Int × Hp)
  | 0, _ => none
  | nl5 + 1, z45 =>
    bif (decide (z45 < (p1.length : Int))) then (Option.bind (idx p1 z45) fun x47 =>
    bif (decide (x47.Home < 0)) then (some (2, w0)) else (Option.bind (m_wal_Log_Homes p0 w0) fun x50 =>
    bif (decide (x47.Home ≥ x50)) then (some (2, w0)) else (bif ((x47.Data.length : Int) != 64) then (some (2, w0)) else ((m_wal_Log_Commit_l5 p1 w0 p0 nl5) (wi (z45 + 1)))))) else (m_wal_Log_Commit_j1 p0 w0 p1)

def m_wal_Log_Commit (p0 : (Option Nat)) (p1 : (List S_api_Write)) (w0 : Hp) : Option (Int × Hp) :=
Option.bind (m_wal_Log_alive p0 w0) fun x1 =>
bif (x1 != 0) then (some (x1, w0)) else (m_wal_Log_Commit_l5 p1 w0 p0 (p1.length + 1) 0)

/-- (*bastille/wal.Log).Read -/
def m_wal_Log_Read (p0 : (Option Nat)) (p1 : Int) (w0 : Hp) : Option ((List UInt8) × Int) :=
Option.bind (m_wal_Log_alive p0 w0) fun x1 =>
bif (x1 != 0) then (some ([], x1)) else (bif (decide (p1 < 0)) then (some ([], 31)) else (Option.bind (m_wal_Log_Homes p0 w0) fun x5 =>
bif (decide (p1 ≥ x5)) then (some ([], 31)) else (ptM p0 (none) (fun i9 =>
Option.bind (w0.ge_lg i9) fun x10 =>
Option.bind (m_wal_Log_home (some i9) p1 w0) fun x12 =>
Option.bind (m_disk_Disk_Read x10.d_ x12 w0) fun x14 =>
some (x14.1, x14.2)))))

/-- (*bastille/wal.Log).Base -/
def m_wal_Log_Base (p0 : (Option Nat)) (w0 : Hp) : Option Int :=
ptM p0 (some 0) (fun i2 =>
Option.bind (w0.ge_lg i2) fun x3 =>
some x3.base_)

/-- (*bastille/disk.Disk).Crash -/
def m_disk_Disk_Crash_j1 (p0 : (Option Nat)) (y4 : Hp) : Option (Int × Hp) :=
ptM p0 (none) (fun i6 =>
Option.bind (y4.ge_dk i6) fun x7 =>
Option.bind (y4.ge_sec x7.kept_.1) fun x9 =>
Option.bind (lenI x9.length x7.kept_.2) fun x11 =>
Option.bind (m_slices_Clone_sector x9) fun x13 =>
bif x13.isEmpty then none else (some (0, ((((((y4.nw_sec x13).st_dk i6 (S_disk_Disk.mk x7.kept_ x7.now_ [] x7.fuse_ x7.off_ x7.lives_)).st_dk i6 (S_disk_Disk.mk x7.kept_ (y4.ln_sec, x13.length) [] x7.fuse_ x7.off_ x7.lives_)).st_dk i6 (S_disk_Disk.mk x7.kept_ (y4.ln_sec, x13.length) [] (-1) x7.off_ x7.lives_)).st_dk i6 (S_disk_Disk.mk x7.kept_ (y4.ln_sec, x13.length) [] (-1) false x7.lives_)).st_dk i6 (S_disk_Disk.mk x7.kept_ (y4.ln_sec, x13.length) [] (-1) false (wi (((S_disk_Disk.mk x7.kept_ (y4.ln_sec, x13.length) [] (-1) false x7.lives_).lives_) + 1)))))))

def m_disk_Disk_Crash_l2 (x18 : S_disk_Disk) (p1 : (List UInt8)) (p0 : (Option Nat)) (i17 : Nat) : Nat → Int → Hp → Option (Int × Hp)
  | 0, _, _ => none
  | nl2 + 1, z20, z21 =>
    bif (decide (z20 < (x18.wait_.length : Int))) then (Option.bind (idx x18.wait_ z20) fun x23 =>
    bif (decide (z20 ≥ (p1.length : Int))) then (m_disk_Disk_Crash_j1 p0 z21) else (Option.bind (idx p1 z20) fun x26 =>
    Option.bind (z21.ge_dk i17) fun x28 =>
    Option.bind (z21.ge_sec x28.kept_.1) fun x30 =>
    Option.bind (lenI x30.length x28.kept_.2) fun x32 =>
    Option.bind (idx x30 x23.n_) fun x34 =>
    Option.bind (vcut 64 0 (if 64 < (x26.toNat : Int) then 64 else (x26.toNat : Int))) fun x36 =>
    Option.bind (cutI (padA (0 : UInt8) x23.b_ 0 64) 0 (if 64 < (x26.toNat : Int) then 64 else (x26.toNat : Int))) fun x38 =>
    (m_disk_Disk_Crash_l2 x18 p1 p0 i17 nl2) (wi (z20 + 1)) (z21.st_sec x28.kept_.1 (x30.set (Int.toNat x23.n_) (cpyL (padA (0 : UInt8) x34 0 64) 0 (Int.toNat (if 64 < (x26.toNat : Int) then 64 else (x26.toNat : Int)) - Int.toNat 0) x38))))) else (m_disk_Disk_Crash_j1 p0 z21)

def m_disk_Disk_Crash (p0 : (Option Nat)) (p1 : (List UInt8)) (w0 : Hp) : Option (Int × Hp) :=
Option.bind (m_disk_Disk_is p0 w0) fun x1 =>
bif (!x1) then (some (1, w0)) else (ptM p0 (none) (fun i17 =>
Option.bind (w0.ge_dk i17) fun x18 =>
m_disk_Disk_Crash_l2 x18 p1 p0 i17 (x18.wait_.length + 1) 0 w0))
end Go.Proofs.Ytjomnccladjpgaa

/-
  Models of functions: printed by a program of this claim's own (gen.py) off the given translation.
-/
namespace Go.Proofs.Ytjomnccladjpgaa
open Go Go.RowKit
set_option linter.unusedVariables false
/-- bastille/bastilleref01.Same -/
def m_R01_Same_l1 (p0 : (List UInt8)) (p1 : (List UInt8)) : Nat → Int → Option Bool
  | 0, _ => none
  | nl1 + 1, z2 =>
    bif (decide (z2 < (p0.length : Int))) then (Option.bind (idx p0 z2) fun x4 =>
    Option.bind (idx p1 z2) fun x6 =>
    bif ((x4.toNat : Int) != (x6.toNat : Int)) then (some false) else ((m_R01_Same_l1 p0 p1 nl1) (wi (z2 + 1)))) else (some true)

def m_R01_Same (p0 : (List UInt8)) (p1 : (List UInt8)) : Option Bool :=
bif ((p0.length : Int) != (p1.length : Int)) then (some false) else (m_R01_Same_l1 p0 p1 (p0.length + 1) 0)

/-- bastille/bastillelaw18.fill -/
def m_L18_fill_l1 (x1 : Nat) (p0 : UInt8) : Nat → Int → (List UInt8) → Option (List UInt8)
  | 0, _, _ => none
  | nl1 + 1, z3, z4 =>
    bif (decide (z3 < ((x1 : Nat) : Int))) then (Option.bind (idx z4 z3) fun x6 =>
    (m_L18_fill_l1 x1 p0 nl1) (wi (z3 + 1)) (z4.set (Int.toNat z3) p0)) else (some z4)

def m_L18_fill (p0 : UInt8) : Option (List UInt8) :=
Option.bind (mkI 1 64) fun x1 =>
m_L18_fill_l1 x1 p0 (Int.toNat ((x1 : Nat) : Int) + 1) 0 (List.replicate x1 (0 : UInt8))

/-- bastille/bastillelaw18.awake -/
def m_L18_awake (w0 : Hp) : Option (Bool × Hp) :=
Option.bind (m_disk_New 6 w0) fun x1 =>
bif (x1.2.1 != 0) then (some (false, x1.2.2)) else (Option.bind (m_wal_Format x1.1 3 x1.2.2) fun x4 =>
bif (x4.1 != 0) then (some (false, x4.2)) else (Option.bind (m_wal_Open x1.1 x4.2) fun x7 =>
bif (x7.2.1 != 0) then (some (false, x7.2.2)) else (Option.bind (m_wal_Log_Homes x7.1 x7.2.2) fun x10 =>
bif (x10 != 1) then (some (false, x7.2.2)) else (Option.bind (m_wal_Log_Base x7.1 x7.2.2) fun x13 =>
bif (x13 != 4) then (some (false, x7.2.2)) else (Option.bind (m_L18_fill 5) fun x16 =>
Option.bind (m_wal_Log_Commit x7.1 [(S_api_Write.mk 0 x16)] x7.2.2) fun x18 =>
bif (x18.1 != 0) then (some (false, x18.2)) else (Option.bind (m_wal_Log_Read x7.1 0 x18.2) fun x21 =>
bif (x21.2 == 0) then (Option.bind (m_L18_fill 5) fun x24 =>
Option.bind (m_R01_Same x21.1 x24) fun x26 =>
bif x26 then (Option.bind (m_wal_Log_Left x7.1 x18.2) fun x29 =>
some ((x29 == 0), x18.2)) else (some (false, x18.2))) else (some (false, x18.2))))))))

/-- bastille/bastillelaw18.FewWrites -/
def m_L18_FewWrites_l1 (p0 : (List S_api_Write)) : Nat → Int → Option Bool
  | 0, _ => none
  | nl1 + 1, z2 =>
    bif (decide (z2 < (p0.length : Int))) then (Option.bind (idx p0 z2) fun x4 =>
    bif (decide ((x4.Data.length : Int) > 100)) then (some false) else ((m_L18_FewWrites_l1 p0 nl1) (wi (z2 + 1)))) else (some true)

def m_L18_FewWrites (p0 : (List S_api_Write)) : Option Bool :=
bif (decide ((p0.length : Int) > 10)) then (some false) else (m_L18_FewWrites_l1 p0 (p0.length + 1) 0)

/-- bastille/bastillelaw18.homes -/
def m_L18_homes_j1 (y1 : (List (List UInt8))) : Option ((List (List UInt8)) × Bool) :=
some (y1, true)

def m_L18_homes_l2 (x2 : Int) (p0 : (Option Nat)) (w0 : Hp) : Nat → (List (List UInt8)) → Int → Option ((List (List UInt8)) × Bool)
  | 0, _, _ => none
  | nl2 + 1, z4, z5 =>
    bif (decide (z5 < x2)) then (Option.bind (m_wal_Log_Read p0 z5 w0) fun x7 =>
    bif (x7.2 != 0) then (some ([], false)) else (Option.bind (appI 24 z4 [x7.1]) fun x10 =>
    (m_L18_homes_l2 x2 p0 w0 nl2) x10 (wi (z5 + 1)))) else (m_L18_homes_j1 z4)

def m_L18_homes (p0 : (Option Nat)) (w0 : Hp) : Option ((List (List UInt8)) × Bool) :=
Option.bind (m_wal_Log_Homes p0 w0) fun x2 =>
m_L18_homes_l2 x2 p0 w0 (Int.toNat x2 + 1) [] 0

/-- bastille/bastillelaw18.same -/
def m_L18_same_l1 (p0 : (List (List UInt8))) (p1 : (List (List UInt8))) : Nat → Int → Option Bool
  | 0, _ => none
  | nl1 + 1, z2 =>
    bif (decide (z2 < (p0.length : Int))) then (Option.bind (idx p0 z2) fun x4 =>
    Option.bind (idx p1 z2) fun x6 =>
    Option.bind (m_R01_Same x4 x6) fun x8 =>
    bif (!x8) then (some false) else ((m_L18_same_l1 p0 p1 nl1) (wi (z2 + 1)))) else (some true)

def m_L18_same (p0 : (List (List UInt8))) (p1 : (List (List UInt8))) : Option Bool :=
bif ((p0.length : Int) != (p1.length : Int)) then (some false) else (m_L18_same_l1 p0 p1 (p0.length + 1) 0)

/-- bastille/bastillelaw18.done -/
def m_L18_done_l1 (p1 : (List S_api_Write)) : Nat → Int → (List (List UInt8)) → Option (List (List UInt8))
  | 0, _, _ => none
  | nl1 + 1, z4, z5 =>
    bif (decide (z4 < (p1.length : Int))) then (Option.bind (idx p1 z4) fun x7 =>
    Option.bind (idx z5 x7.Home) fun x9 =>
    (m_L18_done_l1 p1 nl1) (wi (z4 + 1)) (z5.set (Int.toNat x7.Home) x7.Data)) else (some z5)

def m_L18_done (p0 : (List (List UInt8))) (p1 : (List S_api_Write)) : Option (List (List UInt8)) :=
bif p0.isEmpty then none else (Option.bind (appI 24 [] p0) fun x2 =>
m_L18_done_l1 p1 (p1.length + 1) 0 x2)
end Go.Proofs.Ytjomnccladjpgaa

/-
  Models of functions: printed by a program of this claim's own (gen.py) off the given translation.
-/
namespace Go.Proofs.Ytjomnccladjpgaa
open Go Go.RowKit
set_option linter.unusedVariables false
/-- bastille/bastillelaw18.WalWhole -/
def m_L18_WalWhole_j3 (x7 : ((Option Nat) × Int × Hp)) (x32 : ((Option Nat) × Int × Hp)) (x35 : ((List (List UInt8)) × Bool)) : Option (Bool × Hp) :=
Option.bind (m_disk_Disk_Crash x7.1 [] x32.2.2) fun x37 =>
Option.bind (m_wal_Open x7.1 x37.2) fun x39 =>
bif (x39.2.1 != 0) then (some (false, x39.2.2)) else (Option.bind (m_L18_homes x39.1 x39.2.2) fun x42 =>
bif x42.2 then (Option.bind (m_L18_same x42.1 x35.1) fun x45 =>
some (x45, x39.2.2)) else (some (false, x39.2.2)))

def m_L18_WalWhole_j2 (x7 : ((Option Nat) × Int × Hp)) (p2 : (List (List UInt8))) (y22 : (List (List UInt8))) (y23 : (List (List UInt8))) (y29 : Hp) : Option (Bool × Hp) :=
Option.bind (m_disk_Disk_Crash x7.1 (p2.getD 1 ([] : (List UInt8))) y29) fun x30 =>
Option.bind (m_wal_Open x7.1 x30.2) fun x32 =>
bif (x32.2.1 != 0) then (some (false, x32.2.2)) else (Option.bind (m_L18_homes x32.1 x32.2.2) fun x35 =>
bif (!x35.2) then (some (false, x32.2.2)) else (Option.bind (m_L18_same x35.1 y22) fun x48 =>
bif (!x48) then (Option.bind (m_L18_same x35.1 y23) fun x51 =>
bif (!x51) then (some (false, x32.2.2)) else (m_L18_WalWhole_j3 x7 x32 x35)) else (m_L18_WalWhole_j3 x7 x32 x35)))

def m_L18_WalWhole_j1 (x7 : ((Option Nat) × Int × Hp)) (p2 : (List (List UInt8))) (p1 : (List Int)) (y22 : (List (List UInt8))) (y23 : (List (List UInt8))) (y24 : Hp) : Option (Bool × Hp) :=
Option.bind (m_disk_Disk_Crash x7.1 (p2.getD 0 ([] : (List UInt8))) y24) fun x25 =>
Option.bind (m_disk_Disk_Fuse x7.1 (wi (Int.tmod (p1.getD 1 (0 : Int)) 60)) x25.2) fun x27 =>
Option.bind (m_wal_Open x7.1 x27) fun x54 =>
bif (x54.2.1 != 0) then (bif (x54.2.1 != 30) then (some (false, x54.2.2)) else (m_L18_WalWhole_j2 x7 p2 y22 y23 x54.2.2)) else (m_L18_WalWhole_j2 x7 p2 y22 y23 x54.2.2)

def m_L18_WalWhole_l4 (p0 : (List (List S_api_Write))) (x12 : ((Option Nat) × Int × Hp)) (x7 : ((Option Nat) × Int × Hp)) (p2 : (List (List UInt8))) (p1 : (List Int)) : Nat → (List (List UInt8)) → (List (List UInt8)) → Int → Hp → Option (Bool × Hp)
  | 0, _, _, _, _ => none
  | nl4 + 1, z58, z59, z60, z61 =>
    bif (decide (z60 < (p0.length : Int))) then (Option.bind (idx p0 z60) fun x63 =>
    Option.bind (m_L18_FewWrites x63) fun x65 =>
    bif (!x65) then (some (true, z61)) else (Option.bind (m_wal_Log_Commit x12.1 x63 z61) fun x68 =>
    bif (x68.1 == 2) then ((m_L18_WalWhole_l4 p0 x12 x7 p2 p1 nl4) z58 z59 (wi (z60 + 1)) x68.2) else (bif (x68.1 == 3) then ((m_L18_WalWhole_l4 p0 x12 x7 p2 p1 nl4) z58 z59 (wi (z60 + 1)) x68.2) else (Option.bind (m_L18_done z58 x63) fun x72 =>
    bif (x68.1 != 0) then (m_L18_WalWhole_j1 x7 p2 p1 z58 x72 x68.2) else ((m_L18_WalWhole_l4 p0 x12 x7 p2 p1 nl4) x72 x72 (wi (z60 + 1)) x68.2))))) else (m_L18_WalWhole_j1 x7 p2 p1 z58 z59 z61)

def m_L18_WalWhole (p0 : (List (List S_api_Write))) (p1 : (List Int)) (p2 : (List (List UInt8))) (w0 : Hp) : Option (Bool × Hp) :=
Option.bind (m_L18_awake w0) fun x1 =>
bif (!x1.1) then (some (false, x1.2)) else (bif (decide ((p0.length : Int) > 12)) then (some (true, x1.2)) else (bif (decide (((p2.getD 0 ([] : (List UInt8))).length : Int) > 300)) then (some (true, x1.2)) else (bif (decide (((p2.getD 1 ([] : (List UInt8))).length : Int) > 300)) then (some (true, x1.2)) else (Option.bind (m_disk_New 30 x1.2) fun x7 =>
Option.bind (m_wal_Format x7.1 15 x7.2.2) fun x9 =>
bif (x9.1 != 0) then (some (false, x9.2)) else (Option.bind (m_wal_Open x7.1 x9.2) fun x12 =>
bif (x12.2.1 != 0) then (some (false, x12.2.2)) else (Option.bind (m_wal_Log_Homes x12.1 x12.2.2) fun x15 =>
bif (x15 != 13) then (some (false, x12.2.2)) else (Option.bind (m_L18_homes x12.1 x12.2.2) fun x18 =>
Option.bind (m_disk_Disk_Fuse x7.1 (wi (Int.tmod (p1.getD 0 (0 : Int)) 200)) x12.2.2) fun x20 =>
m_L18_WalWhole_l4 p0 x12 x7 p2 p1 (p0.length + 1) x18.1 x18.1 0 x20)))))))
end Go.Proofs.Ytjomnccladjpgaa
