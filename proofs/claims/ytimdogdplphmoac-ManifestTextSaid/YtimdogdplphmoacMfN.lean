/-
  Manifests and their texts: the models, plain; the laws.
-/
import Derived.Test.YtimdogdplphmoacMfA
namespace Go.Proofs.Ytimdogdplphmoac
open Go Go.RowKit
set_option linter.unusedVariables false
set_option linter.unusedSimpArgs false
set_option maxRecDepth 20000

/-! ### A manifest as a value -/
def wordV (s : List UInt8) : V := .mk 2 0 s []
def numV (n : Int) : V := .mk 1 n [] []
def listV (l : List V) : V := .mk 3 0 [] l
def memV (x : S_api_Member) : V := listV [wordV x.Name, numV x.Role]
def mark : List UInt8 := [109, 97, 110, 105, 102, 101, 115, 116]
def TV (m : S_api_Manifest) : V := listV [wordV mark, wordV m.Folder, numV m.Seq, wordV m.Prev, wordV m.Parent, listV (m.Members.map memV), numV m.Cut, numV (bif m.Gone then 1 else 0), wordV m.By]
theorem rpure_word (s : List UInt8) : (wordV s).rpure = true := by simp [wordV, V.rpure, V.flat, V.k, V.n, V.b, V.l]
theorem rpure_numV {n : Int} (h0 : 0 ≤ n) (h1 : n ≤ 4611686018427387904) : (numV n).rpure = true := rpure_num h0 h1
theorem rpure_listV {l : List V} (h : l.length ≤ 4096) (hl : ∀ x ∈ l, x.rpure = true) : (listV l).rpure = true := rpure_list h hl
theorem deep_word (s : List UInt8) : (wordV s).deep = 0 := V.deep_zero _ (by show ¬ (2 : Int) = 3; decide)
theorem deep_num (n : Int) : (numV n).deep = 0 := V.deep_zero _ (by show ¬ (1 : Int) = 3; decide)
theorem deep_list {l : List V} {d : Nat} (h : ∀ x ∈ l, x.deep ≤ d) : (listV l).deep ≤ d + 1 := by
  rw [V.deep_eq _ rfl]
  exact V.dm_le l 1 (d + 1) (fun x hx => by have := h x hx; omega) (by omega)
theorem sz_word (s : List UInt8) : (wordV s).sz = 4 + s.length := by simp [wordV, V.sz]
theorem sz_num {n : Int} (h0 : 0 ≤ n) (h1 : n ≤ 4611686018427387904) : (numV n).sz ≤ 10 := by
  have := wid_le8 (n := n.toNat) (by omega)
  simp [numV, V.sz]
  omega
theorem sz_list (l : List V) : (listV l).sz = 3 + V.sz.szs l := by simp [listV, V.sz]
theorem szs_le (l : List V) (c : Nat) (h : ∀ x ∈ l, x.sz ≤ c) : V.sz.szs l ≤ l.length * c := by
  induction l with
  | nil => simp [V.sz.szs]
  | cons x r ih =>
    have h1 := h x (by simp)
    have h2 := ih fun y hy => h y (by simp [hy])
    rw [V.sz.szs, List.length_cons, Nat.succ_mul]
    omega
theorem mem_ok {m : S_api_Manifest} (h : MayP m) : ∀ x ∈ m.Members, x.Name.length ≤ 12 ∧ 1 ≤ x.Role ∧ x.Role ≤ 4 := by
  obtain ⟨_, _, _, _, _, _, _, _, hr, _, _⟩ := h
  intro x hx
  obtain ⟨i, hi, e⟩ := List.getElem_of_mem hx
  obtain ⟨h1, h2, h3⟩ := (hr.1 i hi).1 x (by rw [List.getElem?_eq_getElem hi, e])
  exact ⟨h1.2.2, h2, h3⟩
theorem memV_ok {x : S_api_Member} (h : x.Name.length ≤ 12 ∧ 1 ≤ x.Role ∧ x.Role ≤ 4) : (memV x).rpure = true ∧ (memV x).deep ≤ 1 ∧ (memV x).sz ≤ 29 := by
  refine ⟨rpure_listV (by simp) ?_, deep_list (d := 0) ?_, ?_⟩
  · intro y hy
    simp at hy
    rcases hy with rfl | rfl
    · exact rpure_word _
    · exact rpure_numV (by omega) (by omega)
  · intro y hy
    simp at hy
    rcases hy with rfl | rfl
    · rw [deep_word]; exact Nat.le_refl _
    · rw [deep_num]; exact Nat.le_refl _
  · have := sz_num (n := x.Role) (by omega) (by omega)
    unfold memV
    rw [sz_list]
    simp only [V.sz.szs, sz_word]
    omega
theorem TV_right {m : S_api_Manifest} (h : MayP m) : (TV m).rpure = true ∧ (TV m).deep ≤ 16 ∧ (TV m).sz ≤ 1048576 := by
  have hm := mem_ok h
  obtain ⟨h1, h2, h3, h4, h5, h6, h7, h8, h9, h10, h11⟩ := h
  have hmv : ∀ v ∈ m.Members.map memV, v.rpure = true ∧ v.deep ≤ 1 ∧ v.sz ≤ 29 := by
    intro v hv
    obtain ⟨x, hx, rfl⟩ := List.mem_map.1 hv
    exact memV_ok (hm x hx)
  have hl8 := h9.2.1
  have hg : 0 ≤ (bif m.Gone then (1 : Int) else 0) ∧ (bif m.Gone then (1 : Int) else 0) ≤ 1 := by cases m.Gone <;> decide
  refine ⟨rpure_listV (by simp) ?_, ?_, ?_⟩
  · intro y hy
    simp at hy
    rcases hy with rfl | rfl | rfl | rfl | rfl | rfl | rfl | rfl | rfl
    · exact rpure_word _
    · exact rpure_word _
    · exact rpure_numV (by omega) (by omega)
    · exact rpure_word _
    · exact rpure_word _
    · exact rpure_listV (by simp; omega) fun v hv => (hmv v (by simpa using hv)).1
    · exact rpure_numV (by omega) (by omega)
    · exact rpure_numV (by omega) (by omega)
    · exact rpure_word _
  · refine Nat.le_trans (deep_list (d := 2) ?_) (by omega)
    intro y hy
    simp at hy
    rcases hy with rfl | rfl | rfl | rfl | rfl | rfl | rfl | rfl | rfl
    · rw [deep_word]; omega
    · rw [deep_word]; omega
    · rw [deep_num]; omega
    · rw [deep_word]; omega
    · rw [deep_word]; omega
    · exact deep_list (d := 1) fun v hv => (hmv v (by simpa using hv)).2.1
    · rw [deep_num]; omega
    · rw [deep_num]; omega
    · rw [deep_word]; omega
  · unfold TV
    rw [sz_list]
    simp only [V.sz.szs, sz_word, sz_list]
    have e1 := sz_num (n := m.Seq) (by omega) (by omega)
    have e2 := sz_num (n := m.Cut) (by omega) (by omega)
    have e3 := sz_num (n := bif m.Gone then 1 else 0) (by omega) (by omega)
    have e4 := szs_le (m.Members.map memV) 29 fun v hv => (hmv v hv).2.2
    rw [List.length_map] at e4
    have e5 := h1.2.2
    have e6 := h2.2.2
    have e7 : m.Parent.length ≤ 12 := by
      by_cases e : m.Parent = []
      · rw [e]; simp
      · exact (h7 e).2.2
    have e8 : mark.length = 8 := rfl
    omega
theorem wordV_inj {a b : List UInt8} (h : wordV a = wordV b) : a = b := congrArg V.b h
theorem numV_inj {a b : Int} (h : numV a = numV b) : a = b := congrArg V.n h
theorem listV_inj {a b : List V} (h : listV a = listV b) : a = b := congrArg V.l h
theorem memV_inj {a b : S_api_Member} (h : memV a = memV b) : a = b := by
  have h := listV_inj h
  injection h with h1 h2
  injection h2 with h2 _
  cases a
  cases b
  have := wordV_inj h1
  have := numV_inj h2
  simp_all
theorem map_inj {l l' : List S_api_Member} (h : l.map memV = l'.map memV) : l = l' := by
  induction l generalizing l' with
  | nil => cases l' with
    | nil => rfl
    | cons y r => simp at h
  | cons x r ih => cases l' with
    | nil => simp at h
    | cons y r' =>
      simp only [List.map_cons, List.cons.injEq] at h
      rw [memV_inj h.1, ih h.2]
theorem TV_inj {a b : S_api_Manifest} (h : TV a = TV b) : a = b := by
  have h := listV_inj h
  simp only [List.cons.injEq, and_true] at h
  obtain ⟨_, h1, h2, h3, h4, h5, h6, h7, h8⟩ := h
  have g : a.Gone = b.Gone := by
    have := numV_inj h7
    cases ha : a.Gone <;> cases hb : b.Gone <;> simp [ha, hb] at this ⊢
  cases a
  cases b
  simp only at *
  rw [wordV_inj h1, numV_inj h2, wordV_inj h3, wordV_inj h4, map_inj (listV_inj h5), numV_inj h6, g, wordV_inj h8]

/-! ### Texts -/
theorem strB_ok {s : List UInt8} (h : s.length ≤ 100) : strB s = some s := by
  unfold strB
  rw [if_pos (by unfold maxLen; omega)]
theorem n_word {s : List UInt8} (h : s.length ≤ 100) : m_manifest_word s = some (wordV s) := by
  unfold m_manifest_word
  rw [strB_ok h]
  rfl
theorem n_manifest_Text_l2 (m : S_api_Manifest) (x4 : V) (h8 : m.Members.length ≤ 8) (hm : ∀ x ∈ m.Members, x.Name.length ≤ 12) : ∀ (n i : Nat) (out : List V), i ≤ m.Members.length → m.Members.length - i < n → out.length ≤ i → m_manifest_Text_l2 m x4 n out (i : Int) = m_manifest_Text_j1 m x4 (out ++ (m.Members.drop i).map memV)
  | 0, i, out, _, h, _ => by omega
  | n + 1, i, out, hi, h, ho => by
    rw [m_manifest_Text_l2]
    by_cases hlt : i < m.Members.length
    · rw [bif_pos (dec_t (by omega)), idx_nat hlt, Option.bind_some, n_word (by have := hm _ (List.getElem_mem hlt); omega), Option.bind_some, wi_succ (by omega)]
      show Option.bind (appI 64 out [memV m.Members[i]]) _ = _
      rw [appI_ok (by simp; omega), Option.bind_some, n_manifest_Text_l2 m x4 h8 hm n (i + 1) _ (by omega) (by omega) (by simp; omega), List.drop_eq_getElem_cons hlt, List.map_cons, List.append_assoc]
      rfl
    · rw [bif_neg (dec_f (by omega)), List.drop_eq_nil_of_le (by omega)]
      simp
theorem lens {m : S_api_Manifest} (h : MayP m) : m.Folder.length ≤ 12 ∧ m.By.length ≤ 12 ∧ m.Parent.length ≤ 12 ∧ m.Prev.length ≤ 64 ∧ m.Members.length ≤ 8 := by
  obtain ⟨h1, h2, h3, h4, h5, h6, h7, h8, h9, h10, h11⟩ := h
  refine ⟨h1.2.2, h2.2.2, ?_, h6, h9.2.1⟩
  by_cases e : m.Parent = []
  · rw [e]; simp
  · exact (h7 e).2.2
theorem n_manifest_Text_may {m : S_api_Manifest} (hf : MFit m) (h : MayP m) : m_manifest_Text m = some ((TV m).enc, 0) := by
  obtain ⟨l1, l2, l3, l4, l5⟩ := lens h
  unfold m_manifest_Text
  rw [(n_manifest_may m hf).yes h, Option.bind_some, bif_neg (c := !true) rfl]
  show m_manifest_Text_l2 m (V.mk 3 0 [] []) (m.Members.length + 1) [] ((0 : Nat) : Int) = _
  rw [n_manifest_Text_l2 m _ l5 (fun x hx => (mem_ok h x hx).1) (m.Members.length + 1) 0 [] (by omega) (by omega) (by simp)]
  unfold m_manifest_Text_j1
  rw [n_word (s := [109, 97, 110, 105, 102, 101, 115, 116]) (by decide), n_word (by omega : m.Folder.length ≤ 100), n_word (by omega : m.Parent.length ≤ 100), n_word (by omega : m.By.length ≤ 100)]
  have hb : m_manifest_bit m.Gone = some (bif m.Gone then 1 else 0) := by unfold m_manifest_bit; cases m.Gone <;> rfl
  rw [hb]
  show Option.bind (m_codec_Encode (TV m)) _ = _
  have hr : (TV m).right = true := by
    obtain ⟨r1, r2, r3⟩ := TV_right h
    unfold V.right
    simp [r1, r2, r3]
  rw [n_Encode, if_pos hr]
  rfl
theorem n_manifest_Text_not {m : S_api_Manifest} (hf : MFit m) (h : ¬ MayP m) : m_manifest_Text m = some ([], 2) := by
  unfold m_manifest_Text
  rw [(n_manifest_may m hf).no h]
  rfl
theorem n_R28_Text_l3 (m : S_api_Manifest) (h8 : m.Members.length ≤ 8) (hm : ∀ x ∈ m.Members, x.Name.length ≤ 12) : ∀ (n i : Nat) (out : List V), i ≤ m.Members.length → m.Members.length - i < n → out.length ≤ i → m_R28_Text_l3 m n out (i : Int) = m_R28_Text_j1 m (out ++ (m.Members.drop i).map memV)
  | 0, i, out, _, h, _ => by omega
  | n + 1, i, out, hi, h, ho => by
    rw [m_R28_Text_l3]
    by_cases hlt : i < m.Members.length
    · rw [bif_pos (dec_t (by omega)), idx_nat hlt, Option.bind_some, strB_ok (by have := hm _ (List.getElem_mem hlt); omega), Option.bind_some, wi_succ (by omega)]
      show Option.bind (appI 64 out [memV m.Members[i]]) _ = _
      rw [appI_ok (by simp; omega), Option.bind_some, n_R28_Text_l3 m h8 hm n (i + 1) _ (by omega) (by omega) (by simp; omega), List.drop_eq_getElem_cons hlt, List.map_cons, List.append_assoc]
      rfl
    · rw [bif_neg (dec_f (by omega)), List.drop_eq_nil_of_le (by omega)]
      simp
theorem n_R28_Text {m : S_api_Manifest} (h : MayP m) : m_R28_Text m = some (TV m).enc := by
  obtain ⟨l1, l2, l3, l4, l5⟩ := lens h
  unfold m_R28_Text
  show m_R28_Text_l3 m (m.Members.length + 1) [] ((0 : Nat) : Int) = _
  rw [n_R28_Text_l3 m l5 (fun x hx => (mem_ok h x hx).1) (m.Members.length + 1) 0 [] (by omega) (by omega) (by simp)]
  have key : ∀ g : Int, (bif m.Gone then (1 : Int) else 0) = g → m_R28_Text_j2 m ([] ++ (m.Members.drop 0).map memV) g = some (TV m).enc := by
    intro g hg
    unfold m_R28_Text_j2
    rw [strB_ok (by omega : m.Folder.length ≤ 100), strB_ok (by omega : m.Parent.length ≤ 100), strB_ok (by omega : m.By.length ≤ 100), ← hg]
    show Option.bind (m_R02_Bytes (TV m).ht (TV m)) _ = _
    obtain ⟨r1, r2, r3⟩ := TV_right h
    rw [n_R02_Bytes _ _ (Nat.le_refl _) r1 r3]
    rfl
  unfold m_R28_Text_j1
  cases hg : m.Gone with
  | true => exact key 1 (by rw [hg]; rfl)
  | false => exact key 0 (by rw [hg]; rfl)
theorem n_Begins_not {m : S_api_Manifest} (hf : MFit m) (h : ¬ MayP m) : m_manifest_Begins m = some 2 := by
  unfold m_manifest_Begins
  rw [(n_manifest_may m hf).no h]
  rfl

/-! ### Same -/
theorem n_R27_Same (l : List S_api_Member) (h : l.length ≤ 4096) : m_R27_Same l l = some true := by
  unfold m_R27_Same
  rw [bif_neg (ine_f rfl)]
  have hh := loop_then (len := l.length) (m_R27_Same_l1 l l) (fun _ => True) (some true) (some false) (fun n i hi => by
    rw [m_R27_Same_l1]
    rw [bif_pos (dec_t (by omega)), idx_nat hi, Option.bind_some, Option.bind_some, wi_succ (by omega)]
    refine ⟨fun _ => ?_, fun h => absurd trivial h⟩
    simp) (fun n => by
    rw [m_R27_Same_l1]
    rw [bif_neg (dec_f (by omega))]) (l.length + 1) 0 (by omega) (by omega)
  exact hh.1 fun _ _ _ => trivial
theorem n_R28_Same (m : S_api_Manifest) (h1 : m.Prev.length < 4611686018427387904) (h2 : m.Members.length ≤ 4096) : m_R28_Same m m = some true := by
  unfold m_R28_Same
  rw [n_R01_Same _ _ h1, n_R27_Same _ h2]
  simp

/-! ### Kinds -/
def kindsB (v : V) (ks : List Int) : Bool := decide (v.k = 3) && (v.l.map V.k == ks)
theorem kinds_iff (v : V) (ks : List Int) : kindsB v ks = true ↔ v.k = 3 ∧ v.l.length = ks.length ∧ ∀ j, j < ks.length → ∀ x y, v.l[j]? = some x → ks[j]? = some y → x.k = y := by
  unfold kindsB
  rw [Bool.and_eq_true, decide_eq_true_eq, beq_iff_eq]
  refine and_congr_right fun _ => ⟨fun h => ?_, fun ⟨hl, h⟩ => ?_⟩
  · subst h
    refine ⟨by simp, fun j hj x y hx hy => ?_⟩
    rw [List.getElem?_map, hx] at hy
    injection hy
  · refine List.ext_getElem (by simp [hl]) fun i h1 h2 => ?_
    rw [List.getElem_map]
    exact h i h2 _ _ (List.getElem?_eq_getElem _) (List.getElem?_eq_getElem _)
theorem n_Fields (v : V) (ks : List Int) (hk : ks.length ≤ 100) : m_codec_Fields v ks = some (if kindsB v ks = true then (v.l, true) else ([], false)) := by
  unfold m_codec_Fields
  by_cases h3 : v.k = 3
  case neg =>
    rw [bif_pos (ine_t h3), if_neg (fun h => h3 ((kinds_iff v ks).1 h).1)]
  rw [bif_neg (ine_f h3)]
  by_cases hl : v.l.length = ks.length
  case neg =>
    rw [bif_pos (ine_t (by omega)), if_neg (fun h => hl ((kinds_iff v ks).1 h).2.1)]
  rw [bif_neg (ine_f (by omega))]
  have h := loop_then (len := ks.length) (m_codec_Fields_l2 ks v) (fun j => ∀ x y, v.l[j]? = some x → ks[j]? = some y → x.k = y) (some (v.l, true)) (some ([], false)) (fun n i hi => by
    rw [m_codec_Fields_l2]
    have hi' : i < v.l.length := by omega
    rw [bif_pos (dec_t (by omega)), idx_nat hi, Option.bind_some]
    have hj : m_codec_Fields_j3 (m_codec_Fields_l2 ks v n) v (i : Int) ks[i] = bif (v.l[i].k != ks[i]) then some ([], false) else m_codec_Fields_l2 ks v n ((i + 1 : Nat) : Int) := by
      unfold m_codec_Fields_j3
      rw [idx_nat hi', Option.bind_some, wi_succ (by omega)]
    rw [hj]
    have hb : ∀ (a b : Bool) (z : Option (List V × Bool)), (bif a then z else bif b then z else z) = z := fun a b z => by cases a <;> cases b <;> rfl
    rw [hb]
    by_cases he : v.l[i].k = ks[i]
    · rw [bif_neg (ine_f he)]
      refine ⟨fun _ => rfl, fun h => absurd (fun x y hx hy => ?_) h⟩
      rw [List.getElem?_eq_getElem hi'] at hx
      rw [List.getElem?_eq_getElem hi] at hy
      injection hx with hx
      injection hy with hy
      rw [← hx, ← hy, he]
    · rw [bif_pos (ine_t he)]
      exact ⟨fun h => absurd (h _ _ (List.getElem?_eq_getElem hi') (List.getElem?_eq_getElem hi)) he, fun _ => rfl⟩) (fun n => by
    rw [m_codec_Fields_l2]
    rw [bif_neg (dec_f (by omega))]
    rfl) (ks.length + 1) 0 (by omega) (by omega)
  have e : m_codec_Fields_l2 ks v (ks.length + 1) 0 = m_codec_Fields_l2 ks v (ks.length + 1) ((0 : Nat) : Int) := rfl
  rw [e]
  by_cases hc : ∀ j, 0 ≤ j → j < ks.length → ∀ x y, v.l[j]? = some x → ks[j]? = some y → x.k = y
  · rw [h.1 hc, if_pos ((kinds_iff v ks).2 ⟨h3, hl, fun j hj => hc j (by omega) hj⟩)]
  · rw [h.2 hc, if_neg (fun h => hc fun j _ hj => ((kinds_iff v ks).1 h).2.2 j hj)]
theorem n_Kinds (v : V) (ks : List Int) (hk : ks.length ≤ 100) : m_R28_Kinds v ks = some (kindsB v ks) := by
  unfold m_R28_Kinds
  have no : ∀ (p : Prop), (kindsB v ks = true → p) → ¬ p → some false = some (kindsB v ks) := fun p h hp => by
    cases hb : kindsB v ks with
    | false => rfl
    | true => exact absurd (h hb) hp
  by_cases h3 : v.k = 3
  case neg =>
    rw [bif_pos (ine_t h3)]
    exact no _ (fun h => ((kinds_iff v ks).1 h).1) h3
  rw [bif_neg (ine_f h3)]
  by_cases hl : v.l.length = ks.length
  case neg =>
    rw [bif_pos (ine_t (by omega))]
    exact no _ (fun h => ((kinds_iff v ks).1 h).2.1) hl
  rw [bif_neg (ine_f (by omega))]
  have h := loop_then (len := ks.length) (m_R28_Kinds_l1 ks v) (fun j => ∀ x y, v.l[j]? = some x → ks[j]? = some y → x.k = y) (some true) (some false) (fun n i hi => by
    rw [m_R28_Kinds_l1]
    have hi' : i < v.l.length := by omega
    rw [bif_pos (dec_t (by omega)), idx_nat hi', Option.bind_some, idx_nat hi, Option.bind_some, wi_succ (by omega)]
    by_cases he : v.l[i].k = ks[i]
    · rw [bif_neg (ine_f he)]
      refine ⟨fun _ => rfl, fun h => absurd (fun x y hx hy => ?_) h⟩
      rw [List.getElem?_eq_getElem hi'] at hx
      rw [List.getElem?_eq_getElem hi] at hy
      injection hx with hx
      injection hy with hy
      rw [← hx, ← hy, he]
    · rw [bif_pos (ine_t he)]
      exact ⟨fun h => absurd (h _ _ (List.getElem?_eq_getElem hi') (List.getElem?_eq_getElem hi)) he, fun _ => rfl⟩) (fun n => by
    rw [m_R28_Kinds_l1]
    rw [bif_neg (dec_f (by omega))]) (ks.length + 1) 0 (by omega) (by omega)
  have e : m_R28_Kinds_l1 ks v (ks.length + 1) 0 = m_R28_Kinds_l1 ks v (ks.length + 1) ((0 : Nat) : Int) := rfl
  rw [e]
  by_cases hc : ∀ j, 0 ≤ j → j < ks.length → ∀ x y, v.l[j]? = some x → ks[j]? = some y → x.k = y
  · rw [h.1 hc, (kinds_iff v ks).2 ⟨h3, hl, fun j hj => hc j (by omega) hj⟩]
  · rw [h.2 hc]
    exact no _ (fun h j _ hj => ((kinds_iff v ks).1 h).2.2 j hj) hc
end Go.Proofs.Ytimdogdplphmoac
