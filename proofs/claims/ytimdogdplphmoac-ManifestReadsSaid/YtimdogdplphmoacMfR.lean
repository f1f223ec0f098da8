/-
  Manifests read from bytes: the models, plain; the laws ManifestText and ManifestReads.
-/
import Derived.Test.YtimdogdplphmoacMfN
namespace Go.Proofs.Ytimdogdplphmoac
open Go Go.RowKit
set_option linter.unusedVariables false
set_option linter.unusedSimpArgs false
set_option maxRecDepth 20000

/-- A loop that gathers. -/
theorem loop_acc {α β γ : Type} {l : List α} (F : Nat → List β → Int → Option γ) (P : α → Prop) (g : α → β) (K : List β → Option γ) (bad : Option γ)
    (hstep : ∀ n out i (hi : i < l.length), out.length ≤ i → (P l[i] → F (n + 1) out (i : Int) = F n (out ++ [g l[i]]) ((i + 1 : Nat) : Int)) ∧ (¬ P l[i] → F (n + 1) out (i : Int) = bad))
    (hend : ∀ n out, F (n + 1) out (l.length : Int) = K out) : ∀ n i out, i ≤ l.length → l.length - i < n → out.length ≤ i → ((∀ x ∈ l.drop i, P x) → F n out (i : Int) = K (out ++ (l.drop i).map g)) ∧ (¬ (∀ x ∈ l.drop i, P x) → F n out (i : Int) = bad)
  | 0, i, out, _, h, _ => by omega
  | n + 1, i, out, hi, h, ho => by
    by_cases hlt : i < l.length
    · obtain ⟨s1, s2⟩ := hstep n out i hlt ho
      rw [List.drop_eq_getElem_cons hlt]
      by_cases hp : P l[i]
      · rw [s1 hp]
        obtain ⟨k1, k2⟩ := loop_acc F P g K bad hstep hend n (i + 1) (out ++ [g l[i]]) (by omega) (by omega) (by simp; omega)
        refine ⟨fun h => ?_, fun h => k2 fun hc => h fun x hx => ?_⟩
        · rw [k1 fun x hx => h x (List.mem_cons_of_mem _ hx), List.map_cons, List.append_assoc]
          rfl
        · rcases List.mem_cons.1 hx with e | hx
          · rw [e]; exact hp
          · exact hc x hx
      · exact ⟨fun h => absurd (h _ List.mem_cons_self) hp, fun _ => s2 hp⟩
    · have e : i = l.length := by omega
      subst e
      rw [List.drop_length]
      refine ⟨fun _ => by rw [hend]; simp, fun h => absurd (fun x hx => by simp at hx) h⟩

def zM : S_api_Manifest := S_api_Manifest.mk [] 0 [] [] [] 0 false []
def memOf (x : V) : S_api_Member := match x.l with | [a, b] => ⟨a.b, b.n⟩ | _ => ⟨[], 0⟩
theorem kinds2 {x : V} {c d : Int} (h : kindsB x [c, d] = true) : ∃ a b, x.k = 3 ∧ x.l = [a, b] ∧ a.k = c ∧ b.k = d := by
  unfold kindsB at h
  rw [Bool.and_eq_true, decide_eq_true_eq, beq_iff_eq] at h
  obtain ⟨h3, h⟩ := h
  rcases hl : x.l with _ | ⟨a, _ | ⟨b, _ | ⟨c, r⟩⟩⟩ <;> rw [hl] at h <;> simp at h
  exact ⟨a, b, h3, rfl, h⟩
theorem kinds9 {v : V} (h : kindsB v [2, 2, 1, 2, 2, 3, 1, 1, 2] = true) : ∃ a0 a1 a2 a3 a4 a5 a6 a7 a8, v.k = 3 ∧ v.l = [a0, a1, a2, a3, a4, a5, a6, a7, a8] ∧ a0.k = 2 ∧ a1.k = 2 ∧ a2.k = 1 ∧ a3.k = 2 ∧ a4.k = 2 ∧ a5.k = 3 ∧ a6.k = 1 ∧ a7.k = 1 ∧ a8.k = 2 := by
  unfold kindsB at h
  rw [Bool.and_eq_true, decide_eq_true_eq, beq_iff_eq] at h
  obtain ⟨h3, h⟩ := h
  rcases hl : v.l with _ | ⟨a0, _ | ⟨a1, _ | ⟨a2, _ | ⟨a3, _ | ⟨a4, _ | ⟨a5, _ | ⟨a6, _ | ⟨a7, _ | ⟨a8, _ | ⟨a9, r⟩⟩⟩⟩⟩⟩⟩⟩⟩⟩ <;> rw [hl] at h <;> simp at h
  exact ⟨a0, a1, a2, a3, a4, a5, a6, a7, a8, h3, rfl, h⟩
theorem pure_word {a : V} (h : a.rpure = true) (hk : a.k = 2) : a = wordV a.b := by
  have hf := V.rpure_flat h
  unfold V.flat at hf
  rw [if_neg (by omega), if_pos hk] at hf
  simp at hf
  exact V.eta a ▸ (by rw [hk, hf.1, hf.2]; rfl : V.mk a.k a.n a.b a.l = wordV (V.mk a.k a.n a.b a.l).b)
theorem pureN {a : V} (h : a.rpure = true) (hk : a.k = 1) : a = numV a.n ∧ 0 ≤ a.n := by
  have hf := V.rpure_flat h
  unfold V.flat at hf
  rw [if_pos hk] at hf
  simp at hf
  obtain ⟨⟨⟨h0, h1⟩, h2⟩, h3⟩ := hf
  exact ⟨V.eta a ▸ (by rw [hk, h2, h3]; rfl : V.mk a.k a.n a.b a.l = numV (V.mk a.k a.n a.b a.l).n), h0⟩
theorem pure_list {a : V} (h : a.rpure = true) (hk : a.k = 3) : a = listV a.l ∧ a.l.length ≤ 4096 := by
  obtain ⟨_, h1, h2, h3⟩ := V.flat_kind (V.rpure_flat h) (by omega) (by omega)
  exact ⟨V.eta a ▸ (by rw [hk, h1, h2]; rfl : V.mk a.k a.n a.b a.l = listV (V.mk a.k a.n a.b a.l).l), h3⟩
theorem sz_items {v : V} (hk : v.k = 3) : v.sz = 3 + V.sz.szs v.l := by
  cases v with
  | mk a b c d =>
    have hk : a = 3 := hk
    subst hk
    simp [V.sz, V.l]
theorem sz_item {v x : V} (hk : v.k = 3) (hx : x ∈ v.l) : x.sz ≤ v.sz := by
  have := V.sz_le_szs v.l x hx
  rw [sz_items hk]
  omega
theorem sz_bytes {a : V} (hk : a.k = 2) : a.b.length ≤ a.sz := by
  cases a with
  | mk k n b l =>
    have hk : k = 2 := hk
    subst hk
    simp [V.sz, V.b]
/-- A value that was read as a manifest's, and what it holds. -/
structure Parts (v a0 a1 a2 a3 a4 a5 a6 a7 a8 : V) : Prop where
  pure : v.rpure = true
  size : v.sz ≤ 1048576
  k : v.k = 3
  l : v.l = [a0, a1, a2, a3, a4, a5, a6, a7, a8]
  k0 : a0.k = 2
  k1 : a1.k = 2
  k2 : a2.k = 1
  k3 : a3.k = 2
  k4 : a4.k = 2
  k5 : a5.k = 3
  k6 : a6.k = 1
  k7 : a7.k = 1
  k8 : a8.k = 2
def mOf (a1 a2 a3 a4 a5 a6 a7 a8 : V) : S_api_Manifest := S_api_Manifest.mk a1.b a2.n a3.b a4.b (a5.l.map memOf) a6.n (a7.n == 1) a8.b
section
variable {v a0 a1 a2 a3 a4 a5 a6 a7 a8 : V} (H : Parts v a0 a1 a2 a3 a4 a5 a6 a7 a8)
theorem Parts.item (H : Parts v a0 a1 a2 a3 a4 a5 a6 a7 a8) {x : V} (hx : x ∈ [a0, a1, a2, a3, a4, a5, a6, a7, a8]) : x.rpure = true ∧ x.sz ≤ 1048576 := by
  have hx' : x ∈ v.l := by rw [H.l]; exact hx
  exact ⟨V.rpure_items H.pure H.k x hx', Nat.le_trans (sz_item H.k hx') H.size⟩
theorem Parts.eq (H : Parts v a0 a1 a2 a3 a4 a5 a6 a7 a8) : v = listV [wordV a0.b, wordV a1.b, numV a2.n, wordV a3.b, wordV a4.b, listV a5.l, numV a6.n, numV a7.n, wordV a8.b] := by
  rw [← pure_word (H.item (by simp)).1 H.k0, ← pure_word (H.item (by simp)).1 H.k1, ← (pureN (H.item (by simp)).1 H.k2).1, ← pure_word (H.item (by simp)).1 H.k3, ← pure_word (H.item (by simp)).1 H.k4,
    ← (pure_list (H.item (by simp)).1 H.k5).1, ← (pureN (H.item (by simp)).1 H.k6).1, ← (pureN (H.item (by simp)).1 H.k7).1, ← pure_word (H.item (by simp)).1 H.k8, ← H.l]
  exact (pure_list H.pure H.k).1
theorem memV_memOf {x : V} (hp : x.rpure = true) (h : kindsB x [2, 1] = true) : memV (memOf x) = x := by
  obtain ⟨a, b, h3, hl, ha, hb⟩ := kinds2 h
  have e := (pure_list hp h3).1
  have pa := V.rpure_items hp h3 a (by rw [hl]; simp)
  have pb := V.rpure_items hp h3 b (by rw [hl]; simp)
  have : memOf x = ⟨a.b, b.n⟩ := by unfold memOf; rw [hl]
  rw [this]
  unfold memV
  simp only
  rw [← pure_word pa ha, ← (pureN pb hb).1, ← hl]
  exact e.symm
theorem Parts.fit (H : Parts v a0 a1 a2 a3 a4 a5 a6 a7 a8) (hP : ∀ x ∈ a5.l, kindsB x [2, 1] = true) : MFit (mOf a1 a2 a3 a4 a5 a6 a7 a8) := by
  have b1 := Nat.le_trans (sz_bytes H.k1) (H.item (x := a1) (by simp)).2
  have b3 := Nat.le_trans (sz_bytes H.k3) (H.item (x := a3) (by simp)).2
  have b4 := Nat.le_trans (sz_bytes H.k4) (H.item (x := a4) (by simp)).2
  have b8 := Nat.le_trans (sz_bytes H.k8) (H.item (x := a8) (by simp)).2
  have h5 := H.item (x := a5) (by simp)
  have l5 := (pure_list h5.1 H.k5).2
  refine ⟨by show a1.b.length ≤ _; omega, by show a3.b.length ≤ _; omega, by show a4.b.length ≤ _; omega, ⟨?_, ?_⟩, by show a8.b.length ≤ _; omega⟩
  · show (a5.l.map memOf).length ≤ _
    rw [List.length_map]; omega
  · intro x hx
    obtain ⟨y, hy, rfl⟩ := List.mem_map.1 (show x ∈ a5.l.map memOf from hx)
    obtain ⟨a, b, h3, hl, ha, hb⟩ := kinds2 (hP y hy)
    have : memOf y = ⟨a.b, b.n⟩ := by unfold memOf; rw [hl]
    rw [this]
    have s1 := sz_item H.k5 hy
    have s2 := sz_item h3 (x := a) (by rw [hl]; simp)
    have s3 := sz_bytes ha
    have s4 := h5.2
    show a.b.length ≤ _
    omega
theorem Parts.iff (H : Parts v a0 a1 a2 a3 a4 a5 a6 a7 a8) (hP : ∀ x ∈ a5.l, kindsB x [2, 1] = true) : TV (mOf a1 a2 a3 a4 a5 a6 a7 a8) = v ↔ a0.b = mark ∧ a7.n ≤ 1 := by
  have h5 := H.item (x := a5) (by simp)
  have hm : (mOf a1 a2 a3 a4 a5 a6 a7 a8).Members.map memV = a5.l := by
    show (a5.l.map memOf).map memV = a5.l
    rw [List.map_map]
    conv => rhs; rw [← List.map_id a5.l]
    exact List.map_congr_left fun x hx => memV_memOf (V.rpure_items h5.1 H.k5 x hx) (hP x hx)
  have h7 := (pureN (H.item (x := a7) (by simp)).1 H.k7).2
  rw [H.eq]
  unfold TV
  rw [hm]
  constructor
  · intro h
    have h := listV_inj h
    simp only [List.cons.injEq, and_true] at h
    obtain ⟨h0, _, _, _, _, _, _, h7', _⟩ := h
    refine ⟨(wordV_inj h0).symm, ?_⟩
    have := numV_inj h7'
    cases hg : (mOf a1 a2 a3 a4 a5 a6 a7 a8).Gone <;> rw [hg] at this
    · have : (0 : Int) = a7.n := this
      omega
    · have : (1 : Int) = a7.n := this
      omega
  · rintro ⟨h0, h1⟩
    have : (bif (mOf a1 a2 a3 a4 a5 a6 a7 a8).Gone then (1 : Int) else 0) = a7.n := by
      show (bif (a7.n == 1) then (1 : Int) else 0) = a7.n
      by_cases e : a7.n = 1
      · rw [ieq_t e, e]; rfl
      · rw [ieq_f e]
        show (0 : Int) = a7.n
        omega
    rw [this, ← h0]
    rfl
theorem Parts.of (H : Parts v a0 a1 a2 a3 a4 a5 a6 a7 a8) {m : S_api_Manifest} (h : v = TV m) : a0.b = mark ∧ a7.n ≤ 1 ∧ (∀ x ∈ a5.l, kindsB x [2, 1] = true) ∧ mOf a1 a2 a3 a4 a5 a6 a7 a8 = m := by
  have hl := H.l
  rw [h] at hl
  have hl : [wordV mark, wordV m.Folder, numV m.Seq, wordV m.Prev, wordV m.Parent, listV (m.Members.map memV), numV m.Cut, numV (bif m.Gone then 1 else 0), wordV m.By] = [a0, a1, a2, a3, a4, a5, a6, a7, a8] := hl
  simp only [List.cons.injEq, and_true] at hl
  obtain ⟨rfl, rfl, rfl, rfl, rfl, rfl, rfl, rfl, rfl⟩ := hl
  refine ⟨rfl, ?_, ?_, ?_⟩
  · show (bif m.Gone then (1 : Int) else 0) ≤ 1
    cases m.Gone <;> decide
  · intro x hx
    obtain ⟨y, _, rfl⟩ := List.mem_map.1 (show x ∈ m.Members.map memV from hx)
    rfl
  · have e1 : (m.Members.map memV).map memOf = m.Members := by
      rw [List.map_map]
      conv => rhs; rw [← List.map_id m.Members]
      exact List.map_congr_left fun x _ => rfl
    have e2 : ((bif m.Gone then (1 : Int) else 0) == 1) = m.Gone := by cases m.Gone <;> rfl
    show S_api_Manifest.mk m.Folder m.Seq m.Prev m.Parent ((m.Members.map memV).map memOf) m.Cut ((bif m.Gone then (1 : Int) else 0) == 1) m.By = m
    rw [e1, e2]
end

/-! ### Reading -/
theorem appM {out : List S_api_Member} {x : S_api_Member} (h : out.length ≤ 4096) : appI 24 out [x] = some (out ++ [x]) := appI_ok (by simp; omega)
theorem n_manifest_Read_l2 (x31 x10 x12 x14 x16 x18 x20 x22 : V) (x4 : List V × Bool) (hl : x31.l.length ≤ 4096) :
    ((∀ x ∈ x31.l, kindsB x [2, 1] = true) → m_manifest_Read_l2 x31 x10 x12 x14 x16 x18 x20 x22 x4 (x31.l.length + 1) [] 0 = m_manifest_Read_j1 x10 x12 x14 x16 x18 x20 x22 x4 (x31.l.map memOf)) ∧
    (¬ (∀ x ∈ x31.l, kindsB x [2, 1] = true) → m_manifest_Read_l2 x31 x10 x12 x14 x16 x18 x20 x22 x4 (x31.l.length + 1) [] 0 = some (zM, 11)) := by
  have h := loop_acc (l := x31.l) (m_manifest_Read_l2 x31 x10 x12 x14 x16 x18 x20 x22 x4) (fun x => kindsB x [2, 1] = true) memOf (m_manifest_Read_j1 x10 x12 x14 x16 x18 x20 x22 x4) (some (zM, 11)) (fun n out i hi ho => by
    rw [m_manifest_Read_l2]
    rw [bif_pos (dec_t (by omega)), idx_nat hi, Option.bind_some, n_Fields _ _ (by decide), Option.bind_some, wi_succ (by omega)]
    by_cases hk : kindsB x31.l[i] [2, 1] = true
    · refine ⟨fun _ => ?_, fun h => absurd hk h⟩
      obtain ⟨a, b, h3, hl, ha, hb⟩ := kinds2 hk
      have : memOf x31.l[i] = ⟨a.b, b.n⟩ := by unfold memOf; rw [hl]
      rw [if_pos hk, this, hl]
      show Option.bind (appI 24 out [S_api_Member.mk a.b b.n]) _ = _
      rw [appM (by omega)]
      rfl
    · refine ⟨fun h => absurd h hk, fun _ => ?_⟩
      rw [if_neg hk]
      rfl) (fun n out => by
    rw [m_manifest_Read_l2]
    rw [bif_neg (dec_f (by omega))]) (x31.l.length + 1) 0 [] (by omega) (by omega) (by simp)
  rw [List.drop_zero] at h
  exact h
theorem n_R28_Read_l2 (x1 : V × Int) (x32 x7 x9 x11 x13 x15 x17 x19 : V) (p0 : List UInt8) (h5 : idx x1.1.l 5 = some x32) (hl : x32.l.length ≤ 4096) :
    ((∀ x ∈ x32.l, kindsB x [2, 1] = true) → m_R28_Read_l2 x1 x7 x9 x11 x13 x15 x17 x19 p0 4098 [] 0 = m_R28_Read_j1 x7 x9 x11 x13 x15 x17 x19 p0 (x32.l.map memOf)) ∧
    (¬ (∀ x ∈ x32.l, kindsB x [2, 1] = true) → m_R28_Read_l2 x1 x7 x9 x11 x13 x15 x17 x19 p0 4098 [] 0 = some (zM, 11)) := by
  have h := loop_acc (l := x32.l) (m_R28_Read_l2 x1 x7 x9 x11 x13 x15 x17 x19 p0) (fun x => kindsB x [2, 1] = true) memOf (m_R28_Read_j1 x7 x9 x11 x13 x15 x17 x19 p0) (some (zM, 11)) (fun n out i hi ho => by
    rw [m_R28_Read_l2]
    rw [h5, Option.bind_some, bif_pos (dec_t (by omega)), Option.bind_some, idx_nat hi, Option.bind_some, n_Kinds _ _ (by decide), Option.bind_some, wi_succ (by omega)]
    by_cases hk : kindsB x32.l[i] [2, 1] = true
    · refine ⟨fun _ => ?_, fun h => absurd hk h⟩
      obtain ⟨a, b, h3, hl, ha, hb⟩ := kinds2 hk
      have : memOf x32.l[i] = ⟨a.b, b.n⟩ := by unfold memOf; rw [hl]
      rw [show kindsB x32.l[i] [2, 1] = true from hk, this, hl]
      show Option.bind (appI 24 out [S_api_Member.mk a.b b.n]) _ = _
      rw [appM (by omega)]
      rfl
    · refine ⟨fun h => absurd h hk, fun _ => ?_⟩
      rw [show kindsB x32.l[i] [2, 1] = false from by simpa using hk]
      rfl) (fun n out => by
    rw [m_R28_Read_l2]
    rw [h5, Option.bind_some, bif_neg (dec_f (by omega))]) 4098 0 [] (by omega) (by omega) (by simp)
  rw [List.drop_zero] at h
  exact h
theorem enc_inj {v v' : V} (h : v.rpure = true ∧ v.deep ≤ 16 ∧ v.sz ≤ 1048576) (h' : v'.rpure = true ∧ v'.deep ≤ 16 ∧ v'.sz ≤ 1048576) (e : v.enc = v'.enc) : v = v' := by
  have h1 := decS_enc h
  rw [e, decS_enc h'] at h1
  injection h1 with h1
  exact h1.symm
section
variable {b : List UInt8} {v a0 a1 a2 a3 a4 a5 a6 a7 a8 : V}
theorem code_no (hd : decS b = .ok v) (hk : ¬ kindsB v [2, 2, 1, 2, 2, 3, 1, 1, 2] = true) : m_manifest_Read b = some (zM, 11) := by
  unfold m_manifest_Read
  rw [n_Decode]
  unfold decA
  rw [hd]
  show (bif ((0 : Int) != 0) then some (zM, (0 : Int)) else Option.bind (m_codec_Fields v _) _) = _
  rw [bif_neg (c := (0 : Int) != 0) rfl, n_Fields _ _ (by decide), if_neg hk]
  rfl
theorem ref_no (hd : decS b = .ok v) (hk : ¬ kindsB v [2, 2, 1, 2, 2, 3, 1, 1, 2] = true) : m_R28_Read b = some (zM, 11) := by
  unfold m_R28_Read
  rw [n_R02_Decode]
  unfold decA
  rw [hd]
  show (bif ((0 : Int) != 0) then some (zM, (0 : Int)) else Option.bind (m_R28_Kinds v _) _) = _
  rw [bif_neg (c := (0 : Int) != 0) rfl, n_Kinds _ _ (by decide), show kindsB v [2, 2, 1, 2, 2, 3, 1, 1, 2] = false by simpa using hk]
  rfl
theorem code_yes (hd : decS b = .ok v) (hk : kindsB v [2, 2, 1, 2, 2, 3, 1, 1, 2] = true) (H : Parts v a0 a1 a2 a3 a4 a5 a6 a7 a8) :
    m_manifest_Read b = bif (!(a0.b == mark)) then some (zM, 11) else m_manifest_Read_l2 a5 a1 a2 a3 a4 a6 a7 a8 (v.l, true) (a5.l.length + 1) [] 0 := by
  unfold m_manifest_Read
  rw [n_Decode]
  unfold decA
  rw [hd]
  show (bif ((0 : Int) != 0) then some (zM, (0 : Int)) else Option.bind (m_codec_Fields v _) _) = _
  rw [bif_neg (c := (0 : Int) != 0) rfl, n_Fields _ _ (by decide), if_pos hk, H.l]
  rfl
theorem ref_yes (hd : decS b = .ok v) (hk : kindsB v [2, 2, 1, 2, 2, 3, 1, 1, 2] = true) (H : Parts v a0 a1 a2 a3 a4 a5 a6 a7 a8) :
    m_R28_Read b = m_R28_Read_l2 (v, 0) a1 a2 a3 a4 a6 a7 a8 b 4098 [] 0 := by
  unfold m_R28_Read
  rw [n_R02_Decode]
  unfold decA
  rw [hd]
  show (bif ((0 : Int) != 0) then some (zM, (0 : Int)) else Option.bind (m_R28_Kinds v _) _) = _
  rw [bif_neg (c := (0 : Int) != 0) rfl, n_Kinds _ _ (by decide), hk, Option.bind_some, bif_neg (c := !true) rfl]
  have e : ∀ (i : Int) (x : V), idx [a0, a1, a2, a3, a4, a5, a6, a7, a8] i = some x → idx v.l i = some x := fun i x h => by rw [H.l]; exact h
  show Option.bind (idx v.l 1) _ = _
  rw [e 1 a1 rfl, Option.bind_some]
  show Option.bind (idx v.l 2) _ = _
  rw [e 2 a2 rfl, Option.bind_some]
  show Option.bind (idx v.l 3) _ = _
  rw [e 3 a3 rfl, Option.bind_some]
  show Option.bind (idx v.l 4) _ = _
  rw [e 4 a4 rfl, Option.bind_some]
  show Option.bind (idx v.l 6) _ = _
  rw [e 6 a6 rfl, Option.bind_some]
  show Option.bind (idx v.l 7) _ = _
  rw [e 7 a7 rfl, Option.bind_some]
  show Option.bind (idx v.l 8) _ = _
  rw [e 8 a8 rfl, Option.bind_some]
theorem code_j1 (H : Parts v a0 a1 a2 a3 a4 a5 a6 a7 a8) {r : Bool} (hm : m_manifest_may (mOf a1 a2 a3 a4 a5 a6 a7 a8) = some r) :
    m_manifest_Read_j1 a1 a2 a3 a4 a6 a7 a8 (v.l, true) (a5.l.map memOf) = if r = true ∧ a7.n ≤ 1 then some (mOf a1 a2 a3 a4 a5 a6 a7 a8, 0) else some (zM, 11) := by
  unfold m_manifest_Read_j1
  have e : idx v.l 7 = some a7 := by rw [H.l]; rfl
  show Option.bind (m_manifest_may (mOf a1 a2 a3 a4 a5 a6 a7 a8)) _ = _
  rw [hm, Option.bind_some]
  cases r with
  | false => rfl
  | true =>
    rw [bif_neg (c := !true) rfl]
    show Option.bind (idx v.l 7) _ = _
    rw [e, Option.bind_some]
    by_cases h : a7.n ≤ 1
    · rw [bif_neg (dec_f (by omega)), if_pos ⟨rfl, h⟩]; rfl
    · rw [bif_pos (dec_t (by omega)), if_neg (fun k => h k.2)]; rfl
theorem ref_j1 (hl : b.length ≤ 1048576) (hf : MFit (mOf a1 a2 a3 a4 a5 a6 a7 a8)) : (MayP (mOf a1 a2 a3 a4 a5 a6 a7 a8) → m_R28_Read_j1 a1 a2 a3 a4 a6 a7 a8 b (a5.l.map memOf) = if (TV (mOf a1 a2 a3 a4 a5 a6 a7 a8)).enc = b then some (mOf a1 a2 a3 a4 a5 a6 a7 a8, 0) else some (zM, 11)) ∧ (¬ MayP (mOf a1 a2 a3 a4 a5 a6 a7 a8) → m_R28_Read_j1 a1 a2 a3 a4 a6 a7 a8 b (a5.l.map memOf) = some (zM, 11)) := by
  unfold m_R28_Read_j1
  have hm := n_R28_May _ hf
  refine ⟨fun h => ?_, fun h => ?_⟩
  · show Option.bind (m_R28_May (mOf a1 a2 a3 a4 a5 a6 a7 a8)) _ = _
    rw [hm.yes h, Option.bind_some, bif_neg (c := !true) rfl]
    show Option.bind (m_R28_Text (mOf a1 a2 a3 a4 a5 a6 a7 a8)) _ = _
    rw [n_R28_Text h, Option.bind_some, n_R01_Same _ _ (by rw [V.enc_length]; have := (TV_right h).2.2; omega), Option.bind_some]
    by_cases e : (TV (mOf a1 a2 a3 a4 a5 a6 a7 a8)).enc = b
    · rw [if_pos e, show ((TV (mOf a1 a2 a3 a4 a5 a6 a7 a8)).enc == b) = true by simpa using e]; rfl
    · rw [if_neg e, show ((TV (mOf a1 a2 a3 a4 a5 a6 a7 a8)).enc == b) = false by simpa using e]; rfl
  · show Option.bind (m_R28_May (mOf a1 a2 a3 a4 a5 a6 a7 a8)) _ = _
    rw [hm.no h]
    rfl
end
theorem reads (b : List UInt8) : (∃ m, MayP m ∧ MFit m ∧ b = (TV m).enc ∧ m_manifest_Read b = some (m, 0) ∧ m_R28_Read b = some (m, 0)) ∨
    ((∀ m, MayP m → b ≠ (TV m).enc) ∧ ∃ e, e ≠ 0 ∧ m_manifest_Read b = some (zM, e) ∧ m_R28_Read b = some (zM, e)) := by
  cases hd : decS b with
  | error e =>
    have he : e ≠ 0 := by have := decS_err hd; omega
    refine .inr ⟨fun m hm hb => ?_, e, he, ?_, ?_⟩
    · rw [hb, decS_enc (TV_right hm)] at hd
      cases hd
    · unfold m_manifest_Read
      rw [n_Decode]
      unfold decA
      rw [hd]
      show (bif e != 0 then some (zM, e) else _) = _
      rw [bif_pos (ine_t he)]
    · unfold m_R28_Read
      rw [n_R02_Decode]
      unfold decA
      rw [hd]
      show (bif e != 0 then some (zM, e) else _) = _
      rw [bif_pos (ine_t he)]
  | ok v =>
    obtain ⟨hb, hp, hde, hs⟩ := decS_ok hd
    have key : ∀ m, MayP m → b = (TV m).enc → v = TV m := fun m hm hbm => by
      have := decS_enc (TV_right hm)
      rw [← hbm, hd] at this
      injection this
    by_cases hk : kindsB v [2, 2, 1, 2, 2, 3, 1, 1, 2] = true
    case neg =>
      refine .inr ⟨fun m hm hbm => ?_, 11, by decide, code_no hd hk, ref_no hd hk⟩
      rw [key m hm hbm] at hk
      exact hk rfl
    obtain ⟨a0, a1, a2, a3, a4, a5, a6, a7, a8, h3, hl, k0, k1, k2, k3, k4, k5, k6, k7, k8⟩ := kinds9 hk
    have H : Parts v a0 a1 a2 a3 a4 a5 a6 a7 a8 := ⟨hp, hs, h3, hl, k0, k1, k2, k3, k4, k5, k6, k7, k8⟩
    have hl5 := (pure_list (H.item (x := a5) (by simp)).1 k5).2
    have hblen : b.length ≤ 1048576 := by rw [hb, V.enc_length]; exact hs
    rw [code_yes hd hk H, ref_yes hd hk H]
    obtain ⟨c1, c2⟩ := n_manifest_Read_l2 a5 a1 a2 a3 a4 a6 a7 a8 (v.l, true) hl5
    obtain ⟨r1, r2⟩ := n_R28_Read_l2 (v, 0) a5 a1 a2 a3 a4 a6 a7 a8 b (by show idx v.l 5 = some a5; rw [hl]; rfl) hl5
    have no : ∀ (p : Prop), ¬ p → (∀ m, v = TV m → MayP m → p) → ∀ m, MayP m → b ≠ (TV m).enc := fun p hp h m hm hbm => hp (h m (key m hm hbm) hm)
    by_cases hP : ∀ x ∈ a5.l, kindsB x [2, 1] = true
    case neg =>
      refine .inr ⟨no _ hP fun m h _ => (H.of h).2.2.1, 11, by decide, ?_, r2 hP⟩
      rw [c2 hP]
      cases (!(a0.b == mark)) <;> rfl
    rw [c1 hP, r1 hP]
    have hf := H.fit hP
    obtain ⟨r, hr, hri⟩ := n_manifest_may _ hf
    rw [code_j1 H hr]
    obtain ⟨j1, j2⟩ := ref_j1 (b := b) (a1 := a1) (a2 := a2) (a3 := a3) (a4 := a4) (a5 := a5) (a6 := a6) (a7 := a7) (a8 := a8) hblen hf
    by_cases hmay : MayP (mOf a1 a2 a3 a4 a5 a6 a7 a8)
    case neg =>
      refine .inr ⟨no _ hmay fun m h hm => by rw [(H.of h).2.2.2]; exact hm, 11, by decide, ?_, j2 hmay⟩
      rw [if_neg (fun k => hmay (hri.1 k.1))]
      cases (!(a0.b == mark)) <;> rfl
    rw [j1 hmay]
    have hiff := H.iff hP
    by_cases hT : a0.b = mark ∧ a7.n ≤ 1
    · have e := hiff.2 hT
      refine .inl ⟨_, hmay, hf, by rw [e]; exact hb, ?_, ?_⟩
      · rw [if_pos ⟨hri.2 hmay, hT.2⟩, show (a0.b == mark) = true by simpa using hT.1]
        rfl
      · rw [if_pos (by rw [e]; exact hb.symm)]
    · refine .inr ⟨no _ hT fun m h _ => ⟨(H.of h).1, (H.of h).2.1⟩, 11, by decide, ?_, ?_⟩
      · by_cases h0 : a0.b = mark
        · rw [if_neg (fun k => hT ⟨h0, k.2⟩)]
          cases (!(a0.b == mark)) <;> rfl
        · rw [show (a0.b == mark) = false by simpa using h0]
          rfl
      · rw [if_neg (fun k => hT (hiff.1 (enc_inj (TV_right hmay) ⟨hp, hde, hs⟩ (k.trans hb))))]

/-! ### The laws -/
theorem awake28 : m_L28_awake = some true := by kernel_rfl
theorem n_Few28 (m : S_api_Manifest) (hf : MFit m) : ∃ r, m_L28_Few m = some r := by
  unfold m_L28_Few
  have hl := hf.members.1
  have h := loop_then (len := m.Members.length) (m_L28_Few_l2 m) (fun i => ∀ x, m.Members[i]? = some x → x.Name.length ≤ 20) (m_L28_Few_j1 m) (some false) (fun n i hi => by
    rw [m_L28_Few_l2]
    rw [bif_pos (dec_t (by omega)), idx_nat hi, Option.bind_some, wi_succ (by omega)]
    by_cases h : m.Members[i].Name.length ≤ 20
    · rw [bif_neg (dec_f (by omega))]
      exact ⟨fun _ => rfl, fun k => absurd (fun x hx => by rw [List.getElem?_eq_getElem hi] at hx; injection hx with e; rw [← e]; exact h) k⟩
    · rw [bif_pos (dec_t (by omega))]
      exact ⟨fun k => absurd (k _ (List.getElem?_eq_getElem hi)) h, fun _ => rfl⟩) (fun n => by
    rw [m_L28_Few_l2]
    rw [bif_neg (dec_f (by omega))]) (m.Members.length + 1) 0 (by omega) (by omega)
  have e : m_L28_Few_l2 m (m.Members.length + 1) 0 = m_L28_Few_l2 m (m.Members.length + 1) ((0 : Nat) : Int) := rfl
  rw [e]
  by_cases hc : ∀ j, 0 ≤ j → j < m.Members.length → ∀ x, m.Members[j]? = some x → x.Name.length ≤ 20
  · rw [h.1 hc]
    unfold m_L28_Few_j1
    rw [bif_and, bif_and, bif_and, bif_and]
    exact ⟨_, rfl⟩
  · exact ⟨_, h.2 hc⟩
theorem n_ManifestText {m : S_api_Manifest} (hf : MFit m) : m_L28_ManifestText m = some true := by
  unfold m_L28_ManifestText
  rw [awake28, Option.bind_some, bif_neg (c := !true) rfl]
  obtain ⟨r, hr⟩ := n_Few28 m hf
  rw [hr, Option.bind_some]
  cases r with
  | false => rfl
  | true =>
    rw [bif_neg (c := !true) rfl]
    by_cases hm : MayP m
    · rw [n_manifest_Text_may hf hm, Option.bind_some, (n_R28_May m hf).yes hm, Option.bind_some, bif_neg (c := !true) rfl]
      show Option.bind (m_manifest_Read (TV m).enc) _ = _
      rcases reads (TV m).enc with ⟨m', hm', _, he, h1, _⟩ | ⟨h, _⟩
      · have e := TV_inj (enc_inj (TV_right hm) (TV_right hm') he)
        subst e
        rw [h1, Option.bind_some]
        show (bif ((0 : Int) == 0) then Option.bind (m_R28_Text m) _ else _) = _
        rw [bif_pos (ieq_t rfl), n_R28_Text hm, Option.bind_some]
        show Option.bind (m_R01_Same (TV m).enc (TV m).enc) _ = _
        have hs := (TV_right hm).2.2
        rw [n_R01_Same _ _ (by rw [V.enc_length]; omega), Option.bind_some, beq_self_eq_true]
        show (bif ((0 : Int) == 0) then Option.bind (m_R28_Same m m) _ else _) = _
        obtain ⟨_, _, _, l4, l5⟩ := lens hm
        rw [bif_pos (ieq_t rfl), n_R28_Same m (by omega) (by omega)]
        rfl
      · exact absurd rfl (h m hm)
    · rw [n_manifest_Text_not hf hm, Option.bind_some, (n_R28_May m hf).no hm, Option.bind_some, bif_pos (c := !false) rfl]
      show (bif ((2 : Int) == 2) then (bif ((([] : List UInt8).length : Int) == 0) then Option.bind (m_manifest_Begins m) _ else _) else _) = _
      rw [bif_pos (ieq_t rfl), bif_pos (c := (([] : List UInt8).length : Int) == 0) rfl, n_Begins_not hf hm]
      rfl
theorem n_ManifestReads_j1 (b : List UInt8) : m_L28_ManifestReads_j1 b = some true := by
  unfold m_L28_ManifestReads_j1 m_manifest_Split m_R28_Split
  rw [n_Decode, n_R02_Decode]
  have fin : ∀ (x y : List UInt8) (e : Int), x.length ≤ 1048576 → y.length ≤ 1048576 → (Option.bind (some (x, y, e)) fun x13 => Option.bind (some (x, y, e)) fun x15 =>
      bif (x13.2.2 == x15.2.2) then (Option.bind (m_R01_Same x13.1 x15.1) fun x18 => bif x18 then (Option.bind (m_R01_Same x13.2.1 x15.2.1) fun x21 => some x21) else (some false)) else (some false)) = some true := by
    intro x y e hx hy
    show (bif (e == e) then Option.bind (m_R01_Same x x) _ else _) = _
    rw [bif_pos (ieq_t rfl), n_R01_Same _ _ (by omega), Option.bind_some, beq_self_eq_true]
    show Option.bind (m_R01_Same y y) _ = _
    rw [n_R01_Same _ _ (by omega), Option.bind_some, beq_self_eq_true]
  unfold decA
  cases hd : decS b with
  | error e =>
    have he : e ≠ 0 := by have := decS_err hd; omega
    show (Option.bind (bif e != 0 then some ([], [], e) else _) fun x13 => Option.bind (bif e != 0 then some ([], [], e) else _) fun x15 => _) = _
    rw [bif_pos (ine_t he), bif_pos (ine_t he)]
    exact fin [] [] e (by simp) (by simp)
  | ok v =>
    obtain ⟨hb, hp, hde, hs⟩ := decS_ok hd
    show (Option.bind (Option.bind (m_codec_Fields v [2, 2]) _) fun x13 => Option.bind (Option.bind (m_R28_Kinds v [2, 2]) _) fun x15 => _) = _
    rw [n_Fields _ _ (by decide), n_Kinds _ _ (by decide)]
    by_cases hk : kindsB v [2, 2] = true
    · obtain ⟨a, c, h3, hl, ha, hc⟩ := kinds2 hk
      have s1 := Nat.le_trans (sz_bytes ha) (sz_item h3 (x := a) (by rw [hl]; simp))
      have s2 := Nat.le_trans (sz_bytes hc) (sz_item h3 (x := c) (by rw [hl]; simp))
      rw [if_pos hk, hk]
      have e1 : (Option.bind (some (v.l, true)) fun x4 : List V × Bool => bif (!x4.2) then some (([] : List UInt8), ([] : List UInt8), (11 : Int)) else (Option.bind (idx x4.1 0) fun x7 => Option.bind (idx x4.1 1) fun x9 => some (x7.b, x9.b, 0))) = some (a.b, c.b, 0) := by rw [hl]; rfl
      have e2 : (Option.bind (some true) fun x4 : Bool => bif (!x4) then some (([] : List UInt8), ([] : List UInt8), (11 : Int)) else (Option.bind (idx v.l 0) fun x7 => Option.bind (idx v.l 1) fun x9 => some (x7.b, x9.b, 0))) = some (a.b, c.b, 0) := by rw [hl]; rfl
      have f := fin a.b c.b 0 (by omega) (by omega)
      refine Eq.trans ?_ f
      refine (congrArg (fun z => Option.bind z _) e1).trans ?_
      refine congrArg (Option.bind (some (a.b, c.b, (0 : Int)))) (funext fun x13 => ?_)
      exact congrArg (fun z => Option.bind z _) e2
    · rw [if_neg hk, show kindsB v [2, 2] = false by simpa using hk]
      exact fin [] [] 11 (by simp) (by simp)
theorem n_ManifestReads (b : List UInt8) : m_L28_ManifestReads b = some true := by
  unfold m_L28_ManifestReads
  rw [awake28, Option.bind_some, bif_neg (c := !true) rfl]
  by_cases hl : b.length > 1000
  · rw [bif_pos (dec_t (by omega))]
  · rw [bif_neg (dec_f (by omega))]
    rcases reads b with ⟨m, hm, hf, hb, h1, h2⟩ | ⟨_, e, he, h1, h2⟩
    · rw [h1, h2, Option.bind_some, Option.bind_some]
      show (bif ((0 : Int) != 0) then _ else Option.bind (m_R28_Same m m) _) = _
      obtain ⟨_, _, _, l4, l5⟩ := lens hm
      rw [bif_neg (c := (0 : Int) != 0) rfl, n_R28_Same m (by omega) (by omega), Option.bind_some, bif_neg (c := !true) rfl]
      show (bif ((0 : Int) == 0) then Option.bind (m_manifest_Text m) _ else _) = _
      rw [bif_pos (ieq_t rfl), n_manifest_Text_may hf hm, Option.bind_some]
      show (bif ((0 : Int) != 0) then _ else Option.bind (m_R01_Same (TV m).enc b) _) = _
      rw [bif_neg (c := (0 : Int) != 0) rfl, ← hb, n_R01_Same _ _ (by omega), Option.bind_some, beq_self_eq_true]
      exact n_ManifestReads_j1 b
    · rw [h1, h2, Option.bind_some, Option.bind_some]
      show (bif (e != e) then _ else Option.bind (m_R28_Same zM zM) _) = _
      rw [bif_neg (ine_f rfl), n_R28_Same zM (by decide) (by decide), Option.bind_some, bif_neg (c := !true) rfl]
      show (bif (e == 0) then _ else _) = _
      rw [bif_neg (c := e == 0) (ieq_f he)]
      exact n_ManifestReads_j1 b
end Go.Proofs.Ytimdogdplphmoac
