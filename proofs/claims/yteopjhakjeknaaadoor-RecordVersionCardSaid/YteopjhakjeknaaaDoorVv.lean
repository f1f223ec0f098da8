/-
  Texts, numbers and lists as values of the codec; the kinds of a list's items.
-/
import Derived.Test.YteopjhakjeknaaaDoorCbM
import Derived.Test.YteopjhakjeknaaaDoorR2N
import Derived.Test.YteopjhakjeknaaaDoorLoop
namespace Go.Proofs.YteopjhakjeknaaaDoor
open Go Go.RowKit
set_option linter.unusedVariables false
set_option linter.unusedSimpArgs false
set_option maxRecDepth 20000

def wordV (s : List UInt8) : V := .mk 2 0 s []
def numV (n : Int) : V := .mk 1 n [] []
def listV (l : List V) : V := .mk 3 0 [] l
theorem rpure_word (s : List UInt8) : (wordV s).rpure = true := by simp [wordV, V.rpure, V.flat, V.k, V.n, V.b, V.l]
theorem rpure_numV {n : Int} (h0 : 0 ≤ n) (h1 : n ≤ 4611686018427387904) : (numV n).rpure = true := rpure_num h0 h1
theorem rpure_listV {l : List V} (h : l.length ≤ 4096) (hl : ∀ x ∈ l, x.rpure = true) : (listV l).rpure = true := rpure_list h hl
theorem deep_word (s : List UInt8) : (wordV s).deep = 0 := V.deep_zero _ (by show ¬ (2 : Int) = 3; decide)
theorem deep_num (n : Int) : (numV n).deep = 0 := V.deep_zero _ (by show ¬ (1 : Int) = 3; decide)
theorem deep_list {l : List V} {d : Nat} (h : ∀ x ∈ l, x.deep ≤ d) : (listV l).deep ≤ d + 1 := by
  rw [V.deep_eq _ rfl]
  exact V.dm_le l 1 (d + 1) (fun x hx => by have := h x hx; omega) (by omega)
theorem sz_word (s : List UInt8) : (wordV s).sz = 4 + s.length := by simp [wordV, V.sz]
theorem sz_num {n : Int} (h0 : 0 ≤ n) (h1 : n ≤ 4611686018427387904) : (numV n).sz ≤ 10 := by
  have := wid_le8 (n := n.toNat) (by omega)
  simp [numV, V.sz]
  omega
theorem sz_list (l : List V) : (listV l).sz = 3 + V.sz.szs l := by simp [listV, V.sz]
theorem szs_le (l : List V) (c : Nat) (h : ∀ x ∈ l, x.sz ≤ c) : V.sz.szs l ≤ l.length * c := by
  induction l with
  | nil => simp [V.sz.szs]
  | cons x r ih =>
    have h1 := h x (by simp)
    have h2 := ih fun y hy => h y (by simp [hy])
    rw [V.sz.szs, List.length_cons, Nat.succ_mul]
    omega
theorem wordV_inj {a b : List UInt8} (h : wordV a = wordV b) : a = b := congrArg V.b h
theorem numV_inj {a b : Int} (h : numV a = numV b) : a = b := congrArg V.n h
theorem listV_inj {a b : List V} (h : listV a = listV b) : a = b := congrArg V.l h
theorem strB_ok {s : List UInt8} (h : s.length ≤ 100) : strB s = some s := by
  unfold strB
  rw [if_pos (by unfold maxLen; omega)]
/-! ### Kinds -/
def kindsB (v : V) (ks : List Int) : Bool := decide (v.k = 3) && (v.l.map V.k == ks)
theorem kinds_iff (v : V) (ks : List Int) : kindsB v ks = true ↔ v.k = 3 ∧ v.l.length = ks.length ∧ ∀ j, j < ks.length → ∀ x y, v.l[j]? = some x → ks[j]? = some y → x.k = y := by
  unfold kindsB
  rw [Bool.and_eq_true, decide_eq_true_eq, beq_iff_eq]
  refine and_congr_right fun _ => ⟨fun h => ?_, fun ⟨hl, h⟩ => ?_⟩
  · subst h
    refine ⟨by simp, fun j hj x y hx hy => ?_⟩
    rw [List.getElem?_map, hx] at hy
    injection hy
  · refine List.ext_getElem (by simp [hl]) fun i h1 h2 => ?_
    rw [List.getElem_map]
    exact h i h2 _ _ (List.getElem?_eq_getElem _) (List.getElem?_eq_getElem _)
theorem n_Fields (v : V) (ks : List Int) (hk : ks.length ≤ 100) : m_codec_Fields v ks = some (if kindsB v ks = true then (v.l, true) else ([], false)) := by
  unfold m_codec_Fields
  by_cases h3 : v.k = 3
  case neg =>
    rw [bif_pos (ine_t h3), if_neg (fun h => h3 ((kinds_iff v ks).1 h).1)]
  rw [bif_neg (ine_f h3)]
  by_cases hl : v.l.length = ks.length
  case neg =>
    rw [bif_pos (ine_t (by omega)), if_neg (fun h => hl ((kinds_iff v ks).1 h).2.1)]
  rw [bif_neg (ine_f (by omega))]
  have h := loop_then (len := ks.length) (m_codec_Fields_l2 ks v) (fun j => ∀ x y, v.l[j]? = some x → ks[j]? = some y → x.k = y) (some (v.l, true)) (some ([], false)) (fun n i hi => by
    rw [m_codec_Fields_l2]
    have hi' : i < v.l.length := by omega
    rw [bif_pos (dec_t (by omega)), idx_nat hi, Option.bind_some]
    have hj : m_codec_Fields_j3 (m_codec_Fields_l2 ks v n) v (i : Int) ks[i] = bif (v.l[i].k != ks[i]) then some ([], false) else m_codec_Fields_l2 ks v n ((i + 1 : Nat) : Int) := by
      unfold m_codec_Fields_j3
      rw [idx_nat hi', Option.bind_some, wi_succ (by omega)]
    rw [hj]
    have hb : ∀ (a b : Bool) (z : Option (List V × Bool)), (bif a then z else bif b then z else z) = z := fun a b z => by cases a <;> cases b <;> rfl
    rw [hb]
    by_cases he : v.l[i].k = ks[i]
    · rw [bif_neg (ine_f he)]
      refine ⟨fun _ => rfl, fun h => absurd (fun x y hx hy => ?_) h⟩
      rw [List.getElem?_eq_getElem hi'] at hx
      rw [List.getElem?_eq_getElem hi] at hy
      injection hx with hx
      injection hy with hy
      rw [← hx, ← hy, he]
    · rw [bif_pos (ine_t he)]
      exact ⟨fun h => absurd (h _ _ (List.getElem?_eq_getElem hi') (List.getElem?_eq_getElem hi)) he, fun _ => rfl⟩) (fun n => by
    rw [m_codec_Fields_l2]
    rw [bif_neg (dec_f (by omega))]
    rfl) (ks.length + 1) 0 (by omega) (by omega)
  have e : m_codec_Fields_l2 ks v (ks.length + 1) 0 = m_codec_Fields_l2 ks v (ks.length + 1) ((0 : Nat) : Int) := rfl
  rw [e]
  by_cases hc : ∀ j, 0 ≤ j → j < ks.length → ∀ x y, v.l[j]? = some x → ks[j]? = some y → x.k = y
  · rw [h.1 hc, if_pos ((kinds_iff v ks).2 ⟨h3, hl, fun j hj => hc j (by omega) hj⟩)]
  · rw [h.2 hc, if_neg (fun h => hc fun j _ hj => ((kinds_iff v ks).1 h).2.2 j hj)]
theorem n_Kinds (v : V) (ks : List Int) (hk : ks.length ≤ 100) : m_R28_Kinds v ks = some (kindsB v ks) := by
  unfold m_R28_Kinds
  have no : ∀ (p : Prop), (kindsB v ks = true → p) → ¬ p → some false = some (kindsB v ks) := fun p h hp => by
    cases hb : kindsB v ks with
    | false => rfl
    | true => exact absurd (h hb) hp
  by_cases h3 : v.k = 3
  case neg =>
    rw [bif_pos (ine_t h3)]
    exact no _ (fun h => ((kinds_iff v ks).1 h).1) h3
  rw [bif_neg (ine_f h3)]
  by_cases hl : v.l.length = ks.length
  case neg =>
    rw [bif_pos (ine_t (by omega))]
    exact no _ (fun h => ((kinds_iff v ks).1 h).2.1) hl
  rw [bif_neg (ine_f (by omega))]
  have h := loop_then (len := ks.length) (m_R28_Kinds_l1 ks v) (fun j => ∀ x y, v.l[j]? = some x → ks[j]? = some y → x.k = y) (some true) (some false) (fun n i hi => by
    rw [m_R28_Kinds_l1]
    have hi' : i < v.l.length := by omega
    rw [bif_pos (dec_t (by omega)), idx_nat hi', Option.bind_some, idx_nat hi, Option.bind_some, wi_succ (by omega)]
    by_cases he : v.l[i].k = ks[i]
    · rw [bif_neg (ine_f he)]
      refine ⟨fun _ => rfl, fun h => absurd (fun x y hx hy => ?_) h⟩
      rw [List.getElem?_eq_getElem hi'] at hx
      rw [List.getElem?_eq_getElem hi] at hy
      injection hx with hx
      injection hy with hy
      rw [← hx, ← hy, he]
    · rw [bif_pos (ine_t he)]
      exact ⟨fun h => absurd (h _ _ (List.getElem?_eq_getElem hi') (List.getElem?_eq_getElem hi)) he, fun _ => rfl⟩) (fun n => by
    rw [m_R28_Kinds_l1]
    rw [bif_neg (dec_f (by omega))]) (ks.length + 1) 0 (by omega) (by omega)
  have e : m_R28_Kinds_l1 ks v (ks.length + 1) 0 = m_R28_Kinds_l1 ks v (ks.length + 1) ((0 : Nat) : Int) := rfl
  rw [e]
  by_cases hc : ∀ j, 0 ≤ j → j < ks.length → ∀ x y, v.l[j]? = some x → ks[j]? = some y → x.k = y
  · rw [h.1 hc, (kinds_iff v ks).2 ⟨h3, hl, fun j hj => hc j (by omega) hj⟩]
  · rw [h.2 hc]
    exact no _ (fun h j _ hj => ((kinds_iff v ks).1 h).2.2 j hj) hc
theorem kinds2 {x : V} {c d : Int} (h : kindsB x [c, d] = true) : ∃ a b, x.k = 3 ∧ x.l = [a, b] ∧ a.k = c ∧ b.k = d := by
  unfold kindsB at h
  rw [Bool.and_eq_true, decide_eq_true_eq, beq_iff_eq] at h
  obtain ⟨h3, h⟩ := h
  rcases hl : x.l with _ | ⟨a, _ | ⟨b, _ | ⟨c, r⟩⟩⟩ <;> rw [hl] at h <;> simp at h
  exact ⟨a, b, h3, rfl, h⟩
theorem pure_word {a : V} (h : a.rpure = true) (hk : a.k = 2) : a = wordV a.b := by
  have hf := V.rpure_flat h
  unfold V.flat at hf
  rw [if_neg (by omega), if_pos hk] at hf
  simp at hf
  exact V.eta a ▸ (by rw [hk, hf.1, hf.2]; rfl : V.mk a.k a.n a.b a.l = wordV (V.mk a.k a.n a.b a.l).b)
theorem pureN {a : V} (h : a.rpure = true) (hk : a.k = 1) : a = numV a.n ∧ 0 ≤ a.n := by
  have hf := V.rpure_flat h
  unfold V.flat at hf
  rw [if_pos hk] at hf
  simp at hf
  obtain ⟨⟨⟨h0, h1⟩, h2⟩, h3⟩ := hf
  exact ⟨V.eta a ▸ (by rw [hk, h2, h3]; rfl : V.mk a.k a.n a.b a.l = numV (V.mk a.k a.n a.b a.l).n), h0⟩
theorem pure_list {a : V} (h : a.rpure = true) (hk : a.k = 3) : a = listV a.l ∧ a.l.length ≤ 4096 := by
  obtain ⟨_, h1, h2, h3⟩ := V.flat_kind (V.rpure_flat h) (by omega) (by omega)
  exact ⟨V.eta a ▸ (by rw [hk, h1, h2]; rfl : V.mk a.k a.n a.b a.l = listV (V.mk a.k a.n a.b a.l).l), h3⟩
theorem sz_items {v : V} (hk : v.k = 3) : v.sz = 3 + V.sz.szs v.l := by
  cases v with
  | mk a b c d =>
    have hk : a = 3 := hk
    subst hk
    simp [V.sz, V.l]
theorem sz_item {v x : V} (hk : v.k = 3) (hx : x ∈ v.l) : x.sz ≤ v.sz := by
  have := V.sz_le_szs v.l x hx
  rw [sz_items hk]
  omega
theorem sz_bytes {a : V} (hk : a.k = 2) : a.b.length ≤ a.sz := by
  cases a with
  | mk k n b l =>
    have hk : k = 2 := hk
    subst hk
    simp [V.sz, V.b]
theorem enc_inj {v v' : V} (h : v.rpure = true ∧ v.deep ≤ 16 ∧ v.sz ≤ 1048576) (h' : v'.rpure = true ∧ v'.deep ≤ 16 ∧ v'.sz ≤ 1048576) (e : v.enc = v'.enc) : v = v' := by
  have h1 := decS_enc h
  rw [e, decS_enc h'] at h1
  injection h1 with h1
  exact h1.symm
end Go.Proofs.YteopjhakjeknaaaDoor
