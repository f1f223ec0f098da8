/-
  slices.Delete of one member: a local object is eaten, its cells become data.
-/
import Derived.Test.YtikaahmonocahaaQ20
import Derived.Test.YtikaahmonocahaaQ17
namespace Go.Proofs.Ytikaahmonocahaa
open Go Go.RowKit
set_option linter.unusedVariables false
/-- A row of cells, stored in a block. -/
theorem setCells_at {g : Nat} : ∀ (vs : List Value) (o : Nat) (w : World) (cs : Array Value) (E : Nat) (f : Nat × Nat), w.heap[g]? = some (.cells cs E f) →
    ∃ cs' : Array Value, (w.setCells g o vs).heap[g]? = some (.cells cs' E f) ∧ cs'.size = cs.size ∧ (w.setCells g o vs).heap.size = w.heap.size ∧ (∀ k, k ≠ g → (w.setCells g o vs).heap[k]? = w.heap[k]?) ∧ (w.setCells g o vs).os = w.os ∧ (w.setCells g o vs).tape = w.tape ∧ (w.setCells g o vs).output = w.output
  | [], o, w, cs, E, f, h => ⟨cs, h, rfl, rfl, fun _ _ => rfl, rfl, rfl, rfl⟩
  | v :: vs, o, w, cs, E, f, h => by
    have h1 : (w.setCell ⟨g, o, none⟩ v).heap[g]? = some (.cells (cs.setIfInBounds o v) E f) := by
      simp [World.setCell, Array.getElem?_modify, h]
    obtain ⟨cs', a1, a2, a3, a4, a5, a6, a7⟩ := setCells_at vs (o + 1) _ _ _ _ h1
    refine ⟨cs', a1, by rw [a2]; simp, ?_, fun k hk => ?_, a5, a6, a7⟩
    · show ((w.setCell ⟨g, o, none⟩ v).setCells g (o + 1) vs).heap.size = _
      rw [a3]
      simp [World.setCell]
    · show ((w.setCell ⟨g, o, none⟩ v).setCells g (o + 1) vs).heap[k]? = _
      rw [a4 k hk]
      simp [World.setCell, Array.getElem?_modify, Ne.symm hk]
theorem cell_of {w : World} {g : Nat} {cs : Array Value} {E : Nat} {f : Nat × Nat} (h : w.heap[g]? = some (.cells cs E f)) (p : Nat) : w.cell? ⟨g, p, none⟩ = cs[p]? := by
  simp [World.cell?, h]
theorem fro_of {w : World} {g : Nat} {cs : Array Value} {E : Nat} (h : w.heap[g]? = some (.cells cs E (0, 0))) (p : Nat) : w.frozen? ⟨g, p, none⟩ = false := by
  simp [World.frozen?, h]

def delS (f : Nat → A) : Nat → A := fun s => if OB2 ≤ s then san (f (s - OB2)) else .any
set_option maxRecDepth 20000 in
theorem fch_slices_Delete_Member (p0 : List S_api_Member) (i j : Int) (w0 : Hp) (r : List S_api_Member) (h : m_slices_Delete_Member p0 i j = some r) : FCH Try.prog 51 [.t (.view 0 0 35 2 p0.length), .t (.d (.lit (.int .i64 i))), .t (.d (.lit (.int .i64 j)))] [.box (fl (dT cS_api_Member) p0)] [.any] (hpA w0) (hpA w0) (.t (.d (.seq 2 (List.map cS_api_Member r)))) := by
  unfold m_slices_Delete_Member at h
  split at h
  case isFalse => cases h
  rename_i hc
  obtain rfl := Option.some.inj h
  obtain ⟨k, rfl⟩ : ∃ k : Nat, i = k := ⟨i.toNat, by omega⟩
  obtain rfl : j = ((k + 1 : Nat) : Int) := by omega
  have hk : k < p0.length := by omega
  rw [Int.toNat_natCast]
  clear h hc
  intro w m o vals hsat htbl hlt hinj hsz hr
  have hv : RepA m w o _ 0 (.t (.view 0 0 35 2 p0.length)) (vals.getD 0 undef) := hr 0
  have hv1 : RepD m (.lit (.int .i64 k)) (vals.getD 1 undef) := hr 1
  have hv2 : RepD m (.lit (.int .i64 ((k + 1 : Nat) : Int))) (vals.getD 2 undef) := hr 2
  have hb : RepA m w o _ OB (.box (fl (dT cS_api_Member) p0)) (vals.getD OB undef) := hr OB
  obtain ⟨A', c, hnc, hcm, hv0, hor⟩ := hv
  obtain ⟨g, _, hog, hmg, cs, E, hcs, hle, hcell⟩ := hb
  obtain ⟨g2, cs2, hog2, hA', hcs2, hroom⟩ := hor.resolve_left (by omega)
  obtain rfl : g2 = g := hinj _ _ _ hog2 hog
  have e1 : vals.getD 1 undef = .int .i64 k := by generalize vals.getD 1 undef = v at hv1 ⊢; cases hv1; rfl
  have e2 : vals.getD 2 undef = .int .i64 ((k + 1 : Nat) : Int) := by generalize vals.getD 2 undef = v at hv2 ⊢; cases hv2; rfl
  have hvals : vals = #[.slice (some ⟨g2, 0, none⟩) p0.length c, .int .i64 k, .int .i64 ((k + 1 : Nat) : Int)] := by
    rw [hA'] at hv0
    obtain ⟨l⟩ := vals
    match l, hsz with
    | [a, b, d], _ =>
      have q0 : a = _ := hv0
      have q1 : b = _ := e1
      have q2 : d = _ := e2
      rw [q0, q1, q2]
  rw [hcs] at hcs2
  injection hcs2 with hcs2
  injection hcs2 with hcs2 hE _
  subst hcs2
  have hsize : p0.length * 2 ≤ cs.size := by omega
  have hval : ∀ (q t : Nat) (x : S_api_Member) (d : D), p0[q]? = some x → (cS_api_Member x)[t]? = some d → ∃ u, cs[q * 2 + t]? = some u ∧ RepD m d u ∧ u.oneCell' = true := fun q t x d hx hd => by
    have h1 : (fl (dT cS_api_Member) p0)[q * 2 + t]? = some (.d d) := by
      rw [fl_rows, List.getElem?_map, fl_cell_of (k := 2) (fun r hr => by obtain ⟨y, _, rfl⟩ := List.mem_map.1 hr; rfl) (r := cS_api_Member x) (by rw [List.getElem?_map, hx]; rfl) (by have := (List.getElem?_eq_some_iff.1 hd).1; exact this), hd]
      rfl
    obtain ⟨_, u, a1, a2⟩ := hcell _ _ h1
    have a2 : RepD m d u := a2
    refine ⟨u, a1, a2, ?_⟩
    match t, hd with
    | 0, hd => obtain rfl := Option.some.inj hd; cases a2; rfl
    | 1, hd => obtain rfl := Option.some.inj hd; cases a2; rfl
  have hone : ∀ p, p < p0.length * 2 → ∃ u, cs[p]? = some u ∧ u.oneCell' = true := fun p hp => by
    have hq : p / 2 < p0.length := by omega
    have e : p / 2 * 2 + p % 2 = p := by omega
    have ht : p % 2 < 2 := by omega
    obtain ⟨u, a1, _, a3⟩ := hval (p / 2) (p % 2) p0[p / 2] ((cS_api_Member p0[p / 2])[p % 2]'ht) (List.getElem?_eq_getElem hq) (List.getElem?_eq_getElem _)
    rw [e] at a1
    exact ⟨u, a1, a3⟩
  let news := (cs.toList.drop ((k + 1) * 2)).take ((p0.length - (k + 1)) * 2)
  have hnl : news.length = (p0.length - (k + 1)) * 2 := by simp [news]; omega
  have hng : ∀ t, t < (p0.length - (k + 1)) * 2 → news[t]? = cs[(k + 1) * 2 + t]? := fun t ht => by
    simp [news, List.getElem?_take, ht]
  have hcalls := del_calls w g2 c p0.length k (k + 1) rfl news hnl hnc hcm (by omega) (fun t u hu => by
      have ht : t < (p0.length - (k + 1)) * 2 := by rw [← hnl]; exact (List.getElem?_eq_some_iff.1 hu).1
      rw [cell_of hcs, ← hng t ht]; exact hu) (fun u hu => by
      obtain ⟨t, ht⟩ := List.getElem?_of_mem hu
      have htl : t < (p0.length - (k + 1)) * 2 := by rw [← hnl]; exact (List.getElem?_eq_some_iff.1 ht).1
      rw [hng t htl] at ht
      obtain ⟨u', a1, a2⟩ := hone ((k + 1) * 2 + t) (by omega)
      rw [a1] at ht; injection ht with ht; rw [← ht]; exact a2) (fun p hp => by
      obtain ⟨u, a1, _⟩ := hone p hp
      rw [cell_of hcs, a1]; rfl) (fun p hp => fro_of hcs p)
  rw [hvals]
  refine hcalls.mono ?_
  rintro e w' ⟨rfl, q, hw'⟩
  have hcsq : (w.drewN q).heap[g2]? = some (.cells cs E (0, 0)) := hcs
  obtain ⟨c1, b1, b2, b3, b4, b5, b6, b7⟩ := setCells_at news (k * 2) (w.drewN q) cs E (0, 0) hcsq
  obtain ⟨c2, d1, d2, d3, d4, d5, d6, d7⟩ := setCells_at [.string "".toByteArray, .int .i64 0] ((p0.length - 1) * 2) _ c1 E (0, 0) b1
  rw [← hw'] at d1 d3 d4 d5 d6 d7
  have hnew : ∀ p, p < (p0.length - 1) * 2 → w'.cell? ⟨g2, p, none⟩ = cs[if p < k * 2 then p else p + 2]? := fun p hp => by
    rw [hw', World.cell?_setCells_out _ _ _ _ _ (fun _ _ => .inl hp)]
    by_cases hpk : p < k * 2
    · rw [if_pos hpk, World.cell?_setCells_out _ _ _ _ _ (fun _ _ => .inl hpk), cell_of hcsq]
    · rw [if_neg hpk]
      have hin := World.cell?_setCells_in g2 news (k * 2) (w.drewN q) (fun t ht => by
        rw [cell_of hcsq]
        obtain ⟨u, a1, _⟩ := hone (k * 2 + t) (by rw [hnl] at ht; omega)
        rw [a1]; rfl) (p - k * 2) (by rw [hnl]; omega)
      rw [show k * 2 + (p - k * 2) = p by omega] at hin
      rw [hin, ← List.getElem?_eq_getElem, hng _ (by omega)]
      congr 1
      omega
  let m' : Mem := fun b p => if b = g2 then (if p < (p0.length - 1) * 2 then cs[if p < k * 2 then p else p + 2]? else none) else m b p
  have hm'g : ∀ p, p < (p0.length - 1) * 2 → m' g2 p = cs[if p < k * 2 then p else p + 2]? := fun p hp => by
    show (if g2 = g2 then _ else _) = _
    rw [if_pos rfl, if_pos hp]
  have hm'n : ∀ b, b ≠ g2 → m' b = m b := fun b hb => by
    funext p
    show (if b = g2 then _ else _) = _
    rw [if_neg hb]
  have hmle : Mle m m' := fun b p u hu => by
    rw [hm'n b (fun e => by rw [e, hmg] at hu; cases hu)]
    exact hu
  have hblk : ∀ b, b ≠ g2 → w'.heap[b]? = w.heap[b]? := fun b hb => (d4 b hb).trans (b4 b hb)
  refine ⟨_, m', o, delS (hpA w0), { tmps := #[], defers := [] }, 0, rfl, ⟨⟨d5.trans b5, d6.trans b6, d7.trans b7, by rw [d3, b3]; exact Nat.le_refl _, fun b _ hg => hblk b fun e => hg (by rw [e, hog]; simp)⟩, fun b p u hu => ?_, hmle, fun b _ hg => hm'n b fun e => hg (by rw [e, hog]; simp), fun g l hl => .inl (by rw [hl]; simp), fun g l hl => by rw [d3, b3]; exact hlt g l hl, hinj, fun s _ g hg => hg, fun s => ?_, rfl, htbl, Nat.zero_le _, fun b t hb => ?_⟩, ?_, ?_, ?_, by decide⟩
  · by_cases e : b = g2
    · subst e
      have hu' : (if p < (p0.length - 1) * 2 then cs[if p < k * 2 then p else p + 2]? else none) = some u := by
        have : (if b = b then (if p < (p0.length - 1) * 2 then cs[if p < k * 2 then p else p + 2]? else none) else m b p) = some u := hu
        rwa [if_pos rfl] at this
      by_cases hp : p < (p0.length - 1) * 2
      · rw [if_pos hp] at hu'
        rw [hnew p hp]; exact hu'
      · rw [if_neg hp] at hu'; cases hu'
    · rw [hm'n b e] at hu
      rw [World.cell?_of_block (w := w) (hblk b e)]
      exact hsat b p u hu
  · unfold delS
    by_cases hs : OB2 ≤ s
    · rw [if_pos hs]
      have hx := hr s
      have e : argH [.t (.view 0 0 35 2 p0.length), .t (.d (.lit (.int .i64 k))), .t (.d (.lit (.int .i64 ((k + 1 : Nat) : Int))))] [.box (fl (dT cS_api_Member) p0)] (hpA w0) s = .free := by
        unfold argH
        rw [if_neg (by unfold OB OB2 at *; omega), if_pos hs]
        rfl
      rw [e] at hx
      exact hx
    · rw [if_neg hs]; trivial
  · have hx := hr (OB + t)
    by_cases h0 : t = 0
    · subst h0
      refine ⟨.inl (by unfold pinsH; simp), ?_⟩
      by_cases e : b = g2
      · subst e
        intro cs' E' f' hq
        rw [hcs] at hq
        injection hq with hq
        injection hq with q1 q2 q3
        subst q1 q2 q3
        exact ⟨c2, d1, d2.trans b2⟩
      · exact .of_eq (hblk b e)
    · by_cases h1 : OB2 ≤ OB + t
      · refine ⟨.inr h1, .of_eq (hblk b fun e => ?_)⟩
        rw [e, hog] at hb
        injection hb with hb
        injection hb with hb
        omega
      · exfalso
        have e : argH [.t (.view 0 0 35 2 p0.length), .t (.d (.lit (.int .i64 k))), .t (.d (.lit (.int .i64 ((k + 1 : Nat) : Int))))] [.box (fl (dT cS_api_Member) p0)] (hpA w0) (OB + t) = .free := by
          unfold argH
          rw [if_neg (by omega), if_neg h1, show OB + t - OB = t by omega]
          obtain ⟨t, rfl⟩ : ∃ t', t = t' + 1 := ⟨t - 1, by omega⟩
          rfl
        rw [e] at hx
        exact hx b 0 hb
  · show RepD m' (.seq 2 (List.map cS_api_Member (p0.take k ++ p0.drop (k + 1)))) (.slice (some ⟨g2, 0, none⟩) (p0.length - 1) c)
    have hl : (List.map cS_api_Member (p0.take k ++ p0.drop (k + 1))).length = p0.length - 1 := by simp; omega
    rw [← hl]
    have hrow : ∀ (a : Nat) (rw_ : List D), (List.map cS_api_Member (p0.take k ++ p0.drop (k + 1)))[a]? = some rw_ → a < p0.length - 1 ∧ ∃ x, p0[if a < k then a else a + 1]? = some x ∧ rw_ = cS_api_Member x := fun a rw_ ha => by
      have hal : a < p0.length - 1 := by rw [← hl]; exact (List.getElem?_eq_some_iff.1 ha).1
      refine ⟨hal, ?_⟩
      rw [List.getElem?_map, Option.map_eq_some_iff] at ha
      obtain ⟨x, hx, rfl⟩ := ha
      refine ⟨x, ?_, rfl⟩
      by_cases hak : a < k
      · rw [if_pos hak]
        rw [List.getElem?_append_left (by simp; omega), List.getElem?_take, if_pos hak] at hx
        exact hx
      · rw [if_neg hak]
        rw [List.getElem?_append_right (by simp; omega), List.getElem?_drop] at hx
        rw [← hx]
        congr 1
        simp
        omega
    have hgo : ∀ (a : Nat) (rw_ : List D) (t : Nat) (d : D), (List.map cS_api_Member (p0.take k ++ p0.drop (k + 1)))[a]? = some rw_ → rw_[t]? = some d → ∃ u, m' g2 (0 + a * 2 + t) = some u ∧ RepD m' d u := fun a rw_ t d ha hd => by
      obtain ⟨hal, x, hx, rfl⟩ := hrow a rw_ ha
      have ht : t < 2 := (List.getElem?_eq_some_iff.1 hd).1
      obtain ⟨u, a1, a2, _⟩ := hval _ t x d hx hd
      refine ⟨u, ?_, a2.mono hmle⟩
      rw [hm'g _ (by omega), ← a1]
      congr 1
      by_cases hak : a < k
      · rw [if_pos hak, if_pos (by omega)]; omega
      · rw [if_neg hak, if_neg (by omega)]; omega
    refine .seq 2 _ (some ⟨g2, 0, none⟩) c g2 0 (fun a t => (m' g2 (0 + a * 2 + t)).getD undef) (by rw [hl]; omega) hcm (fun _ => rfl) (fun a rw_ ha => by obtain ⟨_, x, _, rfl⟩ := hrow a rw_ ha; rfl) (fun a rw_ t d ha hd => ?_) (fun a rw_ t d ha hd => ?_)
    · obtain ⟨u, a1, _⟩ := hgo a rw_ t d ha hd
      rw [a1]; rfl
    · obtain ⟨u, a1, a2⟩ := hgo a rw_ t d ha hd
      show RepD m' d ((m' g2 (0 + a * 2 + t)).getD undef)
      rw [a1]; exact a2
  · intro a x hx
    match a, hx with
    | 0, hx => obtain rfl := Option.some.inj hx; unfold delS; rw [if_neg (by unfold OB OB2; omega)]
  · intro a
    unfold delS
    have hf : ∀ c, hpA w0 c = .free := fun _ => rfl
    rw [if_pos (by unfold OB OB2; omega), hf, hf]
end Go.Proofs.Ytikaahmonocahaa
