/-
  Bytes to text, cutting slices and texts, told by data.
-/
import Derived.Test.YtimdogdplphmoaaDoorOpBuild
import Derived.Laws.BytesArg
namespace Go.Proofs.YtimdogdplphmoaaDoor
open Go Go.RowKit
set_option linter.unusedVariables false

def isB (l : List (List D)) : Prop := ∀ r, r ∈ l → ∃ n, r = [.lit (.int .u8 n)]
def numR : List D → Int | [.lit (.int _ n)] => n | _ => 0
def strD (l : List (List D)) : ByteArray := strOfNums (l.map numR)
theorem isB_bytes (x : List UInt8) : isB (bytesD x) := by
  intro r hr
  obtain ⟨b, _, rfl⟩ := List.mem_map.1 hr
  exact ⟨_, rfl⟩
theorem strD_bytes (x : List UInt8) : strD (bytesD x) = ⟨x.toArray⟩ := by
  unfold strD strOfNums bytesD
  rw [List.map_map, List.map_map]
  congr 1
  congr 1
  conv => rhs; rw [← List.map_id x]
  refine List.map_congr_left fun b _ => ?_
  simp [numR]

/-- A bound of a cut: as given, or else. -/
def bndO (M : Nat → A) : Option Operand → Option (Option Int)
  | none => some none
  | some x => match vO M x with
    | some (.int _ n) => some (some n)
    | _ => none
def cutL (l : List (List D)) (lo hi : Option Int) : List (List D) := (l.take ((hi.map Int.toNat).getD l.length)).drop ((lo.map Int.toNat).getD 0)
def cutOK (len : Nat) (lo hi mx : Option Int) : Prop := 0 ≤ lo.getD 0 ∧ lo.getD 0 ≤ hi.getD len ∧ hi.getD len ≤ mx.getD len ∧ mx.getD len ≤ len ∧ (mx.isSome = true → hi.isSome = true)

section
variable {w0 : World} {m0 : Mem} {o0 : OwnM} {G : Nat → Prop} {pins : List Nat} {S M : Nat → A} {a : Act} {w : World} {m : Mem} {o : OwnM} {P : Program} {N : Nat}
theorem cvB_run (hsat : ∀ b p u, m b p = some u → w.cell? ⟨b, p, none⟩ = some u) {src dst e : TypeId} {l : List (List D)} {v : Value} (hv : RepD m (.seq 1 l) v) (hl : isB l) (hs : P.underlying src = some (.slice e)) (he : P.underlying e = some (.int .u8)) (hd : P.underlying dst = some .string) :
    (convert src dst v).run P w = .ok (.string (strD l)) w := by
  cases hv with
  | seq _ _ A' cap g p f h1 h2 hA hw hm hr =>
    by_cases hne : l = []
    · subst hne
      rw [run_convert_bytes_string w src dst e _ _ _ hs he hd]
      cases A' <;> simp [Conv.bytesToString, loadCells]
      all_goals rfl
    · rw [hA hne]
      refine run_convert_bytes_arg w src e hs he g p l.length cap (l.map numR) (by simp) (fun i hi => ?_) dst hd
      obtain ⟨n, hn⟩ := hl l[i] (List.getElem_mem hi)
      have h3 := hm i l[i] 0 (.lit (.int .u8 n)) (List.getElem?_eq_getElem hi) (by rw [hn]; rfl)
      have h4 := hr i l[i] 0 (.lit (.int .u8 n)) (List.getElem?_eq_getElem hi) (by rw [hn]; rfl)
      rw [Nat.mul_one, Nat.add_zero] at h3
      rw [hsat _ _ _ h3]
      generalize f i 0 = u at h4
      cases h4
      rw [List.getD_eq_getElem?_getD, List.getElem?_map, List.getElem?_eq_getElem hi]
      simp [hn, numR]

theorem bndO_eq (hM : Mk M S) (I : Inv w0 m0 o0 G pins S a w m o) {x : Option Operand} {n : Option Int} (h : bndO M x = some n) : ∃ k : Int → IntKind, (x.map a.eval) = n.map (fun z => Value.int (k z) z) := by
  cases x with
  | none => injection h with h; subst h; exact ⟨fun _ => IntKind.i64, rfl⟩
  | some y =>
    unfold bndO at h
    simp only at h
    split at h
    · rename_i k z hy
      injection h with h
      subst h
      exact ⟨fun _ => k, by simp [vO_eq hM I hy]⟩
    · cases h
theorem run_sliceBound_ok {k : IntKind} {i : Int} {y : Nat} {c : BoundsCode} (h0 : 0 ≤ i) (h1 : i ≤ y) : (Instr.sliceBound (.int k i) y c).run P w = .ok i.toNat w := by
  simp [Instr.sliceBound, asIntOf, h0, h1]
/-- A cut of data. -/
theorem cut_rep {k : Nat} {l : List (List D)} {A' : Option Addr} {cap g p : Nat} {f : Nat → Nat → Value} (hcap : l.length ≤ cap) (hmax : cap ≤ maxLen) (hA : l ≠ [] → A' = some ⟨g, p, none⟩) (hw : ∀ (i : Nat) (r : List D), l[i]? = some r → r.length = k)
    (hm : ∀ (i : Nat) (r : List D) (j : Nat) (d : D), l[i]? = some r → r[j]? = some d → m g (p + i * k + j) = some (f i j)) (hr : ∀ (i : Nat) (r : List D) (j : Nat) (d : D), l[i]? = some r → r[j]? = some d → RepD m d (f i j)) {lo hi mx : Nat} (h1 : lo ≤ hi) (h2 : hi ≤ l.length) (h3 : hi ≤ mx) (h4 : mx ≤ cap) :
    RepD m (.seq k ((l.take hi).drop lo)) (.slice (if mx = lo then A' else A'.map (·.add (lo * k))) (hi - lo) (mx - lo)) := by
  have hlen : ((l.take hi).drop lo).length = hi - lo := by simp; omega
  have hget : ∀ (i : Nat) (r : List D), ((l.take hi).drop lo)[i]? = some r → l[lo + i]? = some r := by
    intro i r h
    rw [List.getElem?_drop, List.getElem?_take] at h
    split at h
    · exact h
    · cases h
  have := RepD.seq (m := m) k ((l.take hi).drop lo) (if mx = lo then A' else A'.map (·.add (lo * k))) (mx - lo) g (p + lo * k) (fun i j => f (lo + i) j) (by omega) (by omega) (fun hne => ?_) (fun i r h => hw _ r (hget i r h)) (fun i r j d h hj => ?_) (fun i r j d h hj => hr _ r j d (hget i r h) hj)
  · rw [hlen] at this
    exact this
  · have hpos : 0 < hi - lo := by rw [← hlen]; exact List.length_pos_iff.2 hne
    rw [if_neg (by omega), hA (by intro e; subst e; simp at h2; omega)]
    show some ((⟨g, p, none⟩ : Addr).add (lo * k)) = _
    rw [Addr.add_mid]
  · have := hm _ r j d (hget i r h) hj
    rw [Nat.add_mul] at this
    rw [← this]
    congr 1
    omega
theorem cut_run (hsat : ∀ b p u, m b p = some u → w.cell? ⟨b, p, none⟩ = some u) {t e : TypeId} {ie : TypeInfo} (hu : P.underlying t = some (.slice e)) (hie : P.info? e = some ie) {l : List (List D)} {v : Value} (hv : RepD m (.seq ie.size l) v) {lo hi mx : Option Int} (h : cutOK l.length lo hi mx) {kl kh km : Int → IntKind} :
    ∃ v', (Instr.sliceAt t v (lo.map fun z => .int (kl z) z) (hi.map fun z => .int (kh z) z) (mx.map fun z => .int (km z) z)).run P w = .ok v' w ∧ RepD m (.seq ie.size (cutL l lo hi)) v' := by
  obtain ⟨h0, h1, h2, h3, h4⟩ := h
  cases hv with
  | seq _ _ A' cap g p f hcap hmax hA hw hm hr =>
    have hb : (Instr.sliceBounds true l.length cap (lo.map fun z => .int (kl z) z) (hi.map fun z => .int (kh z) z) (mx.map fun z => .int (km z) z)).run P w = .ok ((lo.map Int.toNat).getD 0, (hi.map Int.toNat).getD l.length, (mx.map Int.toNat).getD cap) w := by
      unfold Instr.sliceBounds
      cases lo <;> cases hi <;> cases mx <;> simp only [Option.getD_none, Option.getD_some, Option.map_none, Option.map_some, Option.isSome_none, Option.isSome_some] at h0 h1 h2 h3 h4 ⊢ <;>
        first
          | (simp at h4; done)
          | (simp only [Sem.run_bind, Sem.run_pure, Result.andThen_ok]
             repeat (rw [run_sliceBound_ok (by omega) (by omega), Result.andThen_ok])
             )
    refine ⟨_, ?_, cut_rep (lo := (lo.map Int.toNat).getD 0) (hi := (hi.map Int.toNat).getD l.length) (mx := (mx.map Int.toNat).getD cap) hcap hmax hA hw hm hr ?_ ?_ ?_ ?_⟩
    · unfold Instr.sliceAt
      simp only [Sem.run_bind, run_underlying hu, Result.andThen_ok]
      unfold Instr.slice
      simp only [Sem.run_bind, run_underlying hu, Result.andThen_ok]
      rw [hb]
      simp [sizeOf, typeInfo, hie]
    all_goals (cases lo <;> cases hi <;> cases mx <;> simp at h0 h1 h2 h3 h4 ⊢ <;> omega)
theorem cutS_run {t : TypeId} (hu : P.underlying t = some .string) (s : ByteArray) {lo hi : Option Int} (h0 : 0 ≤ lo.getD 0) (h1 : lo.getD 0 ≤ hi.getD s.size) (h2 : hi.getD s.size ≤ s.size) {kl kh : Int → IntKind} :
    (Instr.sliceAt t (.string s) (lo.map fun z => .int (kl z) z) (hi.map fun z => .int (kh z) z) none).run P w = .ok (.string (s.extract (lo.getD 0).toNat (hi.getD s.size).toNat)) w := by
  have hb : (Instr.sliceBounds false s.size s.size (lo.map fun z => .int (kl z) z) (hi.map fun z => .int (kh z) z) none).run P w = .ok ((lo.getD 0).toNat, (hi.getD s.size).toNat, s.size) w := by
    unfold Instr.sliceBounds
    cases lo <;> cases hi <;> simp only [Option.getD_none, Option.getD_some, Option.map_none, Option.map_some, Option.isSome_none] at h0 h1 h2 ⊢ <;>
      (simp only [Sem.run_bind, Sem.run_pure, Result.andThen_ok]
       repeat (rw [run_sliceBound_ok (by omega) (by omega), Result.andThen_ok])
       ) <;> simp
  unfold Instr.sliceAt
  simp only [Sem.run_bind, run_underlying hu, Result.andThen_ok]
  unfold Instr.slice
  simp only [Sem.run_bind, run_underlying hu, Result.andThen_ok]
  simp [hb]
theorem idxS_run {t : TypeId} (hu : P.underlying t = some .string) (s : ByteArray) {k : IntKind} {n : Int} (h0 : 0 ≤ n) (h1 : n < s.size) : (Instr.index t (.string s) (.int k n)).run P w = .ok (.int .u8 ((s.data.toList.getD n.toNat 0).toNat : Int)) w := by
  have hlt : n.toNat < s.size := by omega
  have hg : s[n.toNat]? = some (s.data.toList.getD n.toNat 0) := by
    have hlt2 : n.toNat < s.data.toList.length := by simpa using hlt
    rw [List.getD_eq_getElem?_getD, List.getElem?_eq_getElem hlt2, Option.getD_some]
    rw [getElem?_pos s n.toNat hlt]
    congr 1
  simp [Instr.index, asIntOf, run_underlying hu, h0, hg]
end
end Go.Proofs.YtimdogdplphmoaaDoor
