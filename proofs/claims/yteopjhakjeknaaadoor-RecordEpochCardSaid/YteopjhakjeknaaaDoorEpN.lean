/-
  Texts joined: see the remarks at the head of each part.
-/
import Derived.Test.YteopjhakjeknaaaDoorCbM
import Derived.Test.YteopjhakjeknaaaDoorLoop
import Derived.Test.YteopjhakjeknaaaDoorR2N
import Derived.Test.YteopjhakjeknaaaDoorEpM
/-
  Names: the models, plain.
-/
namespace Go.Proofs.YteopjhakjeknaaaDoor
open Go Go.RowKit
set_option linter.unusedVariables false
set_option linter.unusedSimpArgs false
set_option maxRecDepth 20000

/-! ### Names -/
def chB (c : UInt8) : Bool := (decide (97 ≤ c.toNat) && decide (c.toNat ≤ 122)) || (decide (48 ≤ c.toNat) && decide (c.toNat ≤ 57))
def NameP (s : List UInt8) : Prop := (∀ j, j < s.length → ∀ c, s[j]? = some c → chB c = true) ∧ 1 ≤ s.length ∧ s.length ≤ 12
theorem name_core {s : List UInt8} (F : Nat → Int → Option Bool) (K : Option Bool) (hs : ∀ n i (h : i < s.length), F (n + 1) (i : Int) = bif chB s[i] then F n ((i + 1 : Nat) : Int) else some false) (he : ∀ n, F (n + 1) (s.length : Int) = K) :
    ((∀ j, j < s.length → ∀ c, s[j]? = some c → chB c = true) → F (s.length + 1) 0 = K) ∧ (¬ (∀ j, j < s.length → ∀ c, s[j]? = some c → chB c = true) → F (s.length + 1) 0 = some false) := by
  have h := loop_then (len := s.length) F (fun j => ∀ c, s[j]? = some c → chB c = true) K (some false) (fun n i hi => by
    rw [hs n i hi]
    refine ⟨fun h => ?_, fun h => ?_⟩
    · rw [h _ (List.getElem?_eq_getElem hi)]; rfl
    · have : chB s[i] = false := by
        cases hc : chB s[i] with
        | false => rfl
        | true => exact absurd (fun c hc' => by rw [List.getElem?_eq_getElem hi] at hc'; injection hc' with e; rw [← e]; exact hc) h
      rw [this]; rfl) he (s.length + 1) 0 (by omega) (by omega)
  exact ⟨fun k => h.1 fun j _ hj => k j hj, fun k => h.2 fun k' => k fun j hj => k' j (by omega) hj⟩
theorem n_tree_Name (s : List UInt8) (hl : s.length ≤ 9223372036854775807) : TellsP (m_tree_Name s) (NameP s) := by
  unfold m_tree_Name
  have h := name_core (s := s) (m_tree_Name_l2 s) (m_tree_Name_j1 s) (fun n i hi => by
    rw [m_tree_Name_l2]
    rw [bif_pos (dec_t (by omega)), idx_nat hi, Option.bind_some, wi_succ (by omega)]
    rw [dlt s[i].toNat 97 97 rfl, dlt s[i].toNat 48 48 rfl, dgt s[i].toNat 57 57 rfl, dgt s[i].toNat 122 122 rfl]
    unfold chB
    cases decide (97 ≤ s[i].toNat) <;> cases decide (s[i].toNat ≤ 122) <;> cases decide (48 ≤ s[i].toNat) <;> cases decide (s[i].toNat ≤ 57) <;> rfl) (fun n => by
    rw [m_tree_Name_l2]
    rw [bif_neg (dec_f (by omega))])
  by_cases hc : ∀ j, j < s.length → ∀ c, s[j]? = some c → chB c = true
  · rw [h.1 hc]
    unfold m_tree_Name_j1
    rw [dge s.length 1 1 rfl, dle s.length 12 12 rfl]
    refine ⟨decide (1 ≤ s.length) && decide (s.length ≤ 12), bif_and, ?_⟩
    simp [NameP]
    exact fun _ _ j hj => hc j hj
  · rw [h.2 hc]
    exact ⟨false, rfl, ⟨fun h => Bool.noConfusion h, fun h => absurd h.1 hc⟩⟩
theorem n_R25_Name (s : List UInt8) (hl : s.length ≤ 9223372036854775807) : TellsP (m_R25_Name s) (NameP s) := by
  unfold m_R25_Name
  rw [dlt s.length 1 1 rfl, dgt s.length 12 12 rfl]
  by_cases h1 : 1 ≤ s.length
  · by_cases h2 : s.length ≤ 12
    · rw [dec_t h1, dec_t h2]
      show TellsP (m_R25_Name_l1 s (s.length + 1) 0) (NameP s)
      have h := name_core (s := s) (m_R25_Name_l1 s) (some true) (fun n i hi => by
        rw [m_R25_Name_l1]
        rw [bif_pos (dec_t (by omega))]
        unfold m_R25_Name_j3 m_R25_Name_j4 m_R25_Name_j2
        simp only [idx_nat hi, Option.bind_some]
        rw [wi_succ (by omega)]
        rw [dge s[i].toNat 97 97 rfl, dle s[i].toNat 122 122 rfl, dge s[i].toNat 48 48 rfl, dle s[i].toNat 57 57 rfl]
        unfold chB
        cases decide (97 ≤ s[i].toNat) <;> cases decide (s[i].toNat ≤ 122) <;> cases decide (48 ≤ s[i].toNat) <;> cases decide (s[i].toNat ≤ 57) <;> rfl) (fun n => by
        rw [m_R25_Name_l1]
        rw [bif_neg (dec_f (by omega))])
      by_cases hc : ∀ j, j < s.length → ∀ c, s[j]? = some c → chB c = true
      · rw [h.1 hc]
        exact ⟨true, rfl, ⟨fun _ => ⟨hc, h1, h2⟩, fun _ => rfl⟩⟩
      · rw [h.2 hc]
        exact ⟨false, rfl, ⟨fun h => Bool.noConfusion h, fun h => absurd h.1 hc⟩⟩
    · rw [dec_t h1, dec_f h2]
      exact ⟨false, rfl, ⟨fun h => Bool.noConfusion h, fun h => absurd h.2.2 h2⟩⟩
  · rw [dec_f h1]
    exact ⟨false, rfl, ⟨fun h => Bool.noConfusion h, fun h => absurd h.2.1 h1⟩⟩

end Go.Proofs.YteopjhakjeknaaaDoor

/-
  Texts, numbers and lists as values of the codec; the kinds of a list's items.
-/
namespace Go.Proofs.YteopjhakjeknaaaDoor
open Go Go.RowKit
set_option linter.unusedVariables false
set_option linter.unusedSimpArgs false
set_option maxRecDepth 20000

def wordV (s : List UInt8) : V := .mk 2 0 s []
def numV (n : Int) : V := .mk 1 n [] []
def listV (l : List V) : V := .mk 3 0 [] l
theorem rpure_word (s : List UInt8) : (wordV s).rpure = true := by simp [wordV, V.rpure, V.flat, V.k, V.n, V.b, V.l]
theorem rpure_numV {n : Int} (h0 : 0 ≤ n) (h1 : n ≤ 4611686018427387904) : (numV n).rpure = true := rpure_num h0 h1
theorem rpure_listV {l : List V} (h : l.length ≤ 4096) (hl : ∀ x ∈ l, x.rpure = true) : (listV l).rpure = true := rpure_list h hl
theorem deep_word (s : List UInt8) : (wordV s).deep = 0 := V.deep_zero _ (by show ¬ (2 : Int) = 3; decide)
theorem deep_num (n : Int) : (numV n).deep = 0 := V.deep_zero _ (by show ¬ (1 : Int) = 3; decide)
theorem deep_list {l : List V} {d : Nat} (h : ∀ x ∈ l, x.deep ≤ d) : (listV l).deep ≤ d + 1 := by
  rw [V.deep_eq _ rfl]
  exact V.dm_le l 1 (d + 1) (fun x hx => by have := h x hx; omega) (by omega)
theorem sz_word (s : List UInt8) : (wordV s).sz = 4 + s.length := by simp [wordV, V.sz]
theorem sz_num {n : Int} (h0 : 0 ≤ n) (h1 : n ≤ 4611686018427387904) : (numV n).sz ≤ 10 := by
  have := wid_le8 (n := n.toNat) (by omega)
  simp [numV, V.sz]
  omega
theorem sz_list (l : List V) : (listV l).sz = 3 + V.sz.szs l := by simp [listV, V.sz]
theorem szs_le (l : List V) (c : Nat) (h : ∀ x ∈ l, x.sz ≤ c) : V.sz.szs l ≤ l.length * c := by
  induction l with
  | nil => simp [V.sz.szs]
  | cons x r ih =>
    have h1 := h x (by simp)
    have h2 := ih fun y hy => h y (by simp [hy])
    rw [V.sz.szs, List.length_cons, Nat.succ_mul]
    omega
theorem wordV_inj {a b : List UInt8} (h : wordV a = wordV b) : a = b := congrArg V.b h
theorem numV_inj {a b : Int} (h : numV a = numV b) : a = b := congrArg V.n h
theorem listV_inj {a b : List V} (h : listV a = listV b) : a = b := congrArg V.l h
theorem strB_ok {s : List UInt8} (h : s.length ≤ 100) : strB s = some s := by
  unfold strB
  rw [if_pos (by unfold maxLen; omega)]
/-! ### Kinds -/
def kindsB (v : V) (ks : List Int) : Bool := decide (v.k = 3) && (v.l.map V.k == ks)
theorem kinds_iff (v : V) (ks : List Int) : kindsB v ks = true ↔ v.k = 3 ∧ v.l.length = ks.length ∧ ∀ j, j < ks.length → ∀ x y, v.l[j]? = some x → ks[j]? = some y → x.k = y := by
  unfold kindsB
  rw [Bool.and_eq_true, decide_eq_true_eq, beq_iff_eq]
  refine and_congr_right fun _ => ⟨fun h => ?_, fun ⟨hl, h⟩ => ?_⟩
  · subst h
    refine ⟨by simp, fun j hj x y hx hy => ?_⟩
    rw [List.getElem?_map, hx] at hy
    injection hy
  · refine List.ext_getElem (by simp [hl]) fun i h1 h2 => ?_
    rw [List.getElem_map]
    exact h i h2 _ _ (List.getElem?_eq_getElem _) (List.getElem?_eq_getElem _)
theorem n_Fields (v : V) (ks : List Int) (hk : ks.length ≤ 100) : m_codec_Fields v ks = some (if kindsB v ks = true then (v.l, true) else ([], false)) := by
  unfold m_codec_Fields
  by_cases h3 : v.k = 3
  case neg =>
    rw [bif_pos (ine_t h3), if_neg (fun h => h3 ((kinds_iff v ks).1 h).1)]
  rw [bif_neg (ine_f h3)]
  by_cases hl : v.l.length = ks.length
  case neg =>
    rw [bif_pos (ine_t (by omega)), if_neg (fun h => hl ((kinds_iff v ks).1 h).2.1)]
  rw [bif_neg (ine_f (by omega))]
  have h := loop_then (len := ks.length) (m_codec_Fields_l2 ks v) (fun j => ∀ x y, v.l[j]? = some x → ks[j]? = some y → x.k = y) (some (v.l, true)) (some ([], false)) (fun n i hi => by
    rw [m_codec_Fields_l2]
    have hi' : i < v.l.length := by omega
    rw [bif_pos (dec_t (by omega)), idx_nat hi, Option.bind_some]
    have hj : m_codec_Fields_j3 (m_codec_Fields_l2 ks v n) v (i : Int) ks[i] = bif (v.l[i].k != ks[i]) then some ([], false) else m_codec_Fields_l2 ks v n ((i + 1 : Nat) : Int) := by
      unfold m_codec_Fields_j3
      rw [idx_nat hi', Option.bind_some, wi_succ (by omega)]
    rw [hj]
    have hb : ∀ (a b : Bool) (z : Option (List V × Bool)), (bif a then z else bif b then z else z) = z := fun a b z => by cases a <;> cases b <;> rfl
    rw [hb]
    by_cases he : v.l[i].k = ks[i]
    · rw [bif_neg (ine_f he)]
      refine ⟨fun _ => rfl, fun h => absurd (fun x y hx hy => ?_) h⟩
      rw [List.getElem?_eq_getElem hi'] at hx
      rw [List.getElem?_eq_getElem hi] at hy
      injection hx with hx
      injection hy with hy
      rw [← hx, ← hy, he]
    · rw [bif_pos (ine_t he)]
      exact ⟨fun h => absurd (h _ _ (List.getElem?_eq_getElem hi') (List.getElem?_eq_getElem hi)) he, fun _ => rfl⟩) (fun n => by
    rw [m_codec_Fields_l2]
    rw [bif_neg (dec_f (by omega))]
    rfl) (ks.length + 1) 0 (by omega) (by omega)
  have e : m_codec_Fields_l2 ks v (ks.length + 1) 0 = m_codec_Fields_l2 ks v (ks.length + 1) ((0 : Nat) : Int) := rfl
  rw [e]
  by_cases hc : ∀ j, 0 ≤ j → j < ks.length → ∀ x y, v.l[j]? = some x → ks[j]? = some y → x.k = y
  · rw [h.1 hc, if_pos ((kinds_iff v ks).2 ⟨h3, hl, fun j hj => hc j (by omega) hj⟩)]
  · rw [h.2 hc, if_neg (fun h => hc fun j _ hj => ((kinds_iff v ks).1 h).2.2 j hj)]
theorem n_Kinds (v : V) (ks : List Int) (hk : ks.length ≤ 100) : m_R28_Kinds v ks = some (kindsB v ks) := by
  unfold m_R28_Kinds
  have no : ∀ (p : Prop), (kindsB v ks = true → p) → ¬ p → some false = some (kindsB v ks) := fun p h hp => by
    cases hb : kindsB v ks with
    | false => rfl
    | true => exact absurd (h hb) hp
  by_cases h3 : v.k = 3
  case neg =>
    rw [bif_pos (ine_t h3)]
    exact no _ (fun h => ((kinds_iff v ks).1 h).1) h3
  rw [bif_neg (ine_f h3)]
  by_cases hl : v.l.length = ks.length
  case neg =>
    rw [bif_pos (ine_t (by omega))]
    exact no _ (fun h => ((kinds_iff v ks).1 h).2.1) hl
  rw [bif_neg (ine_f (by omega))]
  have h := loop_then (len := ks.length) (m_R28_Kinds_l1 ks v) (fun j => ∀ x y, v.l[j]? = some x → ks[j]? = some y → x.k = y) (some true) (some false) (fun n i hi => by
    rw [m_R28_Kinds_l1]
    have hi' : i < v.l.length := by omega
    rw [bif_pos (dec_t (by omega)), idx_nat hi', Option.bind_some, idx_nat hi, Option.bind_some, wi_succ (by omega)]
    by_cases he : v.l[i].k = ks[i]
    · rw [bif_neg (ine_f he)]
      refine ⟨fun _ => rfl, fun h => absurd (fun x y hx hy => ?_) h⟩
      rw [List.getElem?_eq_getElem hi'] at hx
      rw [List.getElem?_eq_getElem hi] at hy
      injection hx with hx
      injection hy with hy
      rw [← hx, ← hy, he]
    · rw [bif_pos (ine_t he)]
      exact ⟨fun h => absurd (h _ _ (List.getElem?_eq_getElem hi') (List.getElem?_eq_getElem hi)) he, fun _ => rfl⟩) (fun n => by
    rw [m_R28_Kinds_l1]
    rw [bif_neg (dec_f (by omega))]) (ks.length + 1) 0 (by omega) (by omega)
  have e : m_R28_Kinds_l1 ks v (ks.length + 1) 0 = m_R28_Kinds_l1 ks v (ks.length + 1) ((0 : Nat) : Int) := rfl
  rw [e]
  by_cases hc : ∀ j, 0 ≤ j → j < ks.length → ∀ x y, v.l[j]? = some x → ks[j]? = some y → x.k = y
  · rw [h.1 hc, (kinds_iff v ks).2 ⟨h3, hl, fun j hj => hc j (by omega) hj⟩]
  · rw [h.2 hc]
    exact no _ (fun h j _ hj => ((kinds_iff v ks).1 h).2.2 j hj) hc
theorem kinds2 {x : V} {c d : Int} (h : kindsB x [c, d] = true) : ∃ a b, x.k = 3 ∧ x.l = [a, b] ∧ a.k = c ∧ b.k = d := by
  unfold kindsB at h
  rw [Bool.and_eq_true, decide_eq_true_eq, beq_iff_eq] at h
  obtain ⟨h3, h⟩ := h
  rcases hl : x.l with _ | ⟨a, _ | ⟨b, _ | ⟨c, r⟩⟩⟩ <;> rw [hl] at h <;> simp at h
  exact ⟨a, b, h3, rfl, h⟩
theorem pure_word {a : V} (h : a.rpure = true) (hk : a.k = 2) : a = wordV a.b := by
  have hf := V.rpure_flat h
  unfold V.flat at hf
  rw [if_neg (by omega), if_pos hk] at hf
  simp at hf
  exact V.eta a ▸ (by rw [hk, hf.1, hf.2]; rfl : V.mk a.k a.n a.b a.l = wordV (V.mk a.k a.n a.b a.l).b)
theorem pureN {a : V} (h : a.rpure = true) (hk : a.k = 1) : a = numV a.n ∧ 0 ≤ a.n := by
  have hf := V.rpure_flat h
  unfold V.flat at hf
  rw [if_pos hk] at hf
  simp at hf
  obtain ⟨⟨⟨h0, h1⟩, h2⟩, h3⟩ := hf
  exact ⟨V.eta a ▸ (by rw [hk, h2, h3]; rfl : V.mk a.k a.n a.b a.l = numV (V.mk a.k a.n a.b a.l).n), h0⟩
theorem pure_list {a : V} (h : a.rpure = true) (hk : a.k = 3) : a = listV a.l ∧ a.l.length ≤ 4096 := by
  obtain ⟨_, h1, h2, h3⟩ := V.flat_kind (V.rpure_flat h) (by omega) (by omega)
  exact ⟨V.eta a ▸ (by rw [hk, h1, h2]; rfl : V.mk a.k a.n a.b a.l = listV (V.mk a.k a.n a.b a.l).l), h3⟩
theorem sz_items {v : V} (hk : v.k = 3) : v.sz = 3 + V.sz.szs v.l := by
  cases v with
  | mk a b c d =>
    have hk : a = 3 := hk
    subst hk
    simp [V.sz, V.l]
theorem sz_item {v x : V} (hk : v.k = 3) (hx : x ∈ v.l) : x.sz ≤ v.sz := by
  have := V.sz_le_szs v.l x hx
  rw [sz_items hk]
  omega
theorem sz_bytes {a : V} (hk : a.k = 2) : a.b.length ≤ a.sz := by
  cases a with
  | mk k n b l =>
    have hk : k = 2 := hk
    subst hk
    simp [V.sz, V.b]
theorem enc_inj {v v' : V} (h : v.rpure = true ∧ v.deep ≤ 16 ∧ v.sz ≤ 1048576) (h' : v'.rpure = true ∧ v'.deep ≤ 16 ∧ v'.sz ≤ 1048576) (e : v.enc = v'.enc) : v = v' := by
  have h1 := decS_enc h
  rw [e, decS_enc h'] at h1
  injection h1 with h1
  exact h1.symm
end Go.Proofs.YteopjhakjeknaaaDoor

/-
  What the models of padding compute, plain; and the law.
-/
namespace Go.Proofs.YteopjhakjeknaaaDoor
open Go Go.RowKit
set_option linter.unusedVariables false
set_option linter.unusedSimpArgs false

theorem apzI_ok {nb m : Nat} {n : Int} {k : Nat} (hn : n = k) (h : (m + k) * nb ≤ 140737488355328) : apzI nb m n = some k := by
  subst hn
  unfold apzI
  rw [if_pos ⟨by omega, by simpa using h⟩]
  rfl
/-- A padded blob. -/
def padB (b : List UInt8) (k : Nat) : List UInt8 := be 2 b.length ++ b ++ List.replicate (k - 2 - b.length) 0
def padS (b : List UInt8) (z : Int) : List UInt8 × Int := if z ≠ 120 ∧ z ≠ 1020 then ([], 2) else if (b.length : Int) > z - 2 then ([], 3) else (padB b z.toNat, 0)
theorem padB_length {b : List UInt8} {k : Nat} (h : b.length + 2 ≤ k) : (padB b k).length = k := by
  unfold padB
  rw [List.length_append, List.length_append, be_length, List.length_replicate]
  omega
theorem be2 {n : Nat} : be 2 n = [UInt8.ofNat (n / 256 % 256), UInt8.ofNat (n % 256)] := by
  rw [be_succ, be_succ]
  simp
  rfl
theorem n_sized (z : Int) : m_record_sized z = some (decide (z = 120 ∨ z = 1020)) := by
  unfold m_record_sized
  by_cases h : z = 120
  · subst h; rfl
  · rw [ieq_f h]
    by_cases h2 : z = 1020
    · subst h2; rfl
    · rw [ieq_f h2, dec_f (by omega)]; rfl
theorem n_record_Pad (b : List UInt8) (z : Int) (hb : b.length ≤ 1000000) : m_record_Pad b z = some (padS b z) := by
  unfold m_record_Pad padS
  rw [n_sized]
  show (bif !(decide (z = 120 ∨ z = 1020)) then _ else _) = _
  by_cases hz : z = 120 ∨ z = 1020
  · rw [dec_t hz, if_neg (by omega)]
    show (bif decide (((b.length : Int)) > wi (z - 2)) then _ else _) = _
    rw [wi_id (z := z - 2) (by omega) (by omega)]
    by_cases hl : (b.length : Int) > z - 2
    · rw [dec_t hl, if_pos hl]; rfl
    · rw [dec_f hl, if_neg hl]
      show Option.bind (m_word_Put (b.length : Int) 2) _ = _
      rw [n_wput2 (by omega)]
      show Option.bind (appI 1 (be 2 b.length) b) _ = _
      rw [appI_ok (by rw [be_length]; omega)]
      show Option.bind (apzI 1 (be 2 b.length ++ b).length (wi (z - 2 - (b.length : Int)))) _ = _
      rw [wi_id (by omega) (by omega), apzI_ok (k := z.toNat - 2 - b.length) (by omega) (by rw [List.length_append, be_length]; omega)]
      rfl
  · rw [dec_f hz, if_pos (by omega)]; rfl
theorem n_R35_Pad_l3 (z : Int) (k : Nat) (hz : z = k) (hk : k ≤ 100000) : ∀ (n : Nat) (o : List UInt8), o.length ≤ k → k - o.length < n → m_R35_Pad_l3 z n o = some (o ++ List.replicate (k - o.length) 0, 0)
  | 0, o, _, h => by omega
  | n + 1, o, ho, h => by
    unfold m_R35_Pad_l3
    by_cases hlt : o.length < k
    · rw [dec_t (by omega)]
      show Option.bind (appI 1 o [0]) _ = _
      rw [appI_ok (by simp; omega)]
      show m_R35_Pad_l3 z n (o ++ [0]) = _
      rw [n_R35_Pad_l3 z k hz hk n (o ++ [0]) (by simp; omega) (by simp; omega), List.append_assoc, List.length_append, List.length_singleton, show k - o.length = (k - (o.length + 1)) + 1 by omega, List.replicate_succ]
      rfl
    · rw [dec_f (by omega), show k - o.length = 0 by omega]
      show m_R35_Pad_j2 o = _
      unfold m_R35_Pad_j2
      simp
theorem n_R35_Pad_j1 (b : List UInt8) (z : Int) (hb : b.length ≤ 1000000) (hz : z = 120 ∨ z = 1020) : m_R35_Pad_j1 b z = some (padS b z) := by
  unfold m_R35_Pad_j1 padS
  rw [if_neg (by omega)]
  rw [wi_id (z := z - 2) (by omega) (by omega)]
  by_cases hl : (b.length : Int) > z - 2
  · rw [dec_t hl, if_pos hl]; rfl
  · rw [dec_f hl, if_neg hl]
    have hd : Int.tdiv (b.length : Int) 256 = ((b.length / 256 : Nat) : Int) := rfl
    have hm : Int.tmod (b.length : Int) 256 = ((b.length % 256 : Nat) : Int) := rfl
    rw [hd, hm, wi_id (by omega) (by omega), U8_nat (by omega), U8_nat (by omega)]
    have h2 : be 2 b.length = [UInt8.ofNat (b.length / 256), UInt8.ofNat (b.length % 256)] := by
      rw [be2, Nat.mod_eq_of_lt (a := b.length / 256) (by omega)]
    rw [← h2]
    show Option.bind (appI 1 (be 2 b.length) b) _ = _
    rw [appI_ok (by rw [be_length]; omega)]
    show m_R35_Pad_l3 z (Int.toNat z + 1) (be 2 b.length ++ b) = _
    rw [n_R35_Pad_l3 z z.toNat (by omega) (by omega) _ _ (by rw [List.length_append, be_length]; omega) (by omega), List.length_append, be_length]
    unfold padB
    rw [show z.toNat - (2 + b.length) = z.toNat - 2 - b.length by omega]
theorem n_R35_Pad (b : List UInt8) (z : Int) (hb : b.length ≤ 1000000) : m_R35_Pad b z = some (padS b z) := by
  unfold m_R35_Pad
  by_cases h1 : z = 120
  · rw [ine_f h1]
    exact n_R35_Pad_j1 b z hb (.inl h1)
  · rw [ine_t h1]
    by_cases h2 : z = 1020
    · rw [ine_f h2]
      exact n_R35_Pad_j1 b z hb (.inr h2)
    · rw [ine_t h2]
      unfold padS
      rw [if_pos ⟨h1, h2⟩]
      rfl

/-! ### Unpad -/
def unpadS (b : List UInt8) : List UInt8 × Int := if b.length ≠ 120 ∧ b.length ≠ 1020 then ([], 11) else if ofBE (b.take 2) > b.length - 2 ∨ b.drop (2 + ofBE (b.take 2)) ≠ List.replicate (b.length - (2 + ofBE (b.take 2))) 0 then ([], 11) else ((b.drop 2).take (ofBE (b.take 2)), 0)
theorem n_IndexFunc (l : List UInt8) (hl : l.length ≤ 100000) : ∀ (n i : Nat), i ≤ l.length → l.length - i < n → ∃ z : Int, m_slices_IndexFunc_byte_l1 l m_record_Unpad_c1 n (i : Int) = some z ∧ (0 ≤ z ↔ ¬ l.drop i = List.replicate (l.length - i) 0)
  | 0, i, _, h => by omega
  | n + 1, i, hi, h => by
    unfold m_slices_IndexFunc_byte_l1
    by_cases hlt : i < l.length
    · rw [dec_t (by omega)]
      show ∃ z : Int, Option.bind (idx l (i : Int)) _ = some z ∧ _
      rw [idx_nat hlt]
      have hd : l.drop i = l[i] :: l.drop (i + 1) := List.drop_eq_getElem_cons hlt
      rw [hd, show l.length - i = (l.length - (i + 1)) + 1 by omega, List.replicate_succ]
      by_cases hc : l[i] = 0
      · obtain ⟨z, h1, h2⟩ := n_IndexFunc l hl n (i + 1) (by omega) (by omega)
        refine ⟨z, ?_, ?_⟩
        · show (bif ((l[i].toNat : Int) != 0) then _ else _) = _
          rw [hc]
          show m_slices_IndexFunc_byte_l1 l m_record_Unpad_c1 n (wi ((i : Int) + 1)) = _
          rw [wi_succ (by omega)]
          exact h1
        · rw [h2, hc]
          simp
      · refine ⟨(i : Int), ?_, ?_⟩
        · show (bif ((l[i].toNat : Int) != 0) then _ else _) = _
          have : ((l[i].toNat : Int) != 0) = true := ine_t (by
            intro e
            apply hc
            have e : l[i].toNat = 0 := by omega
            exact UInt8.toNat_inj.1 e)
          rw [this]
          rfl
        · constructor
          · intro _ e
            injection e with e _
            exact hc e
          · intro _; omega
    · rw [dec_f (by omega)]
      refine ⟨-1, rfl, ?_⟩
      rw [show i = l.length by omega]
      simp
theorem ofBE2 {b : List UInt8} (h : 2 ≤ b.length) : ofBE (b.take 2) = b[0].toNat * 256 + b[1].toNat ∧ ofBE (b.take 2) < 65536 := by
  refine ⟨?_, ofBE_lt 2 _ (by rw [List.length_take]; omega)⟩
  match b, h with
  | x :: y :: r, _ => simp [ofBE]
theorem n_record_Unpad (b : List UInt8) (hb : b.length ≤ 2000) : m_record_Unpad b = some (unpadS b) := by
  unfold m_record_Unpad unpadS
  rw [n_sized]
  show (bif !(decide ((b.length : Int) = 120 ∨ (b.length : Int) = 1020)) then _ else _) = _
  by_cases hz : b.length = 120 ∨ b.length = 1020
  · rw [dec_t (by omega), if_neg (by omega)]
    obtain ⟨_, hlt⟩ := ofBE2 (b := b) (by omega)
    show Option.bind (cutI b 0 2) _ = _
    rw [show (2 : Int) = ((2 : Nat) : Int) from rfl, cutI_take (by omega)]
    show Option.bind (m_word_Get (b.take 2)) _ = _
    rw [n_Get]
    have hl2 : (b.take 2).length = 2 := by rw [List.length_take]; omega
    have hg : getN (b.take 2) = (ofBE (b.take 2) : Int) := by
      unfold getN
      rw [if_neg (by omega)]
    show (bif decide (getN (b.take 2) > wi ((b.length : Int) - 2)) then _ else _) = _
    rw [hg, wi_id (z := (b.length : Int) - 2) (by omega) (by omega)]
    generalize ofBE (b.take 2) = n at *
    by_cases hn : n > b.length - 2
    · rw [dec_t (by omega), if_pos (.inl hn)]; rfl
    · rw [dec_f (by omega)]
      show Option.bind (cutI b (wi (2 + (n : Int))) (b.length : Int)) _ = _
      have h2 : wi (2 + (n : Int)) = ((2 + n : Nat) : Int) := by rw [wi_id (by omega) (by omega)]; omega
      rw [h2, cutI_drop (by omega)]
      show Option.bind (m_slices_ContainsFunc_byte (b.drop (2 + n)) m_record_Unpad_c1) _ = _
      unfold m_slices_ContainsFunc_byte m_slices_IndexFunc_byte
      obtain ⟨z, h3, h4⟩ := n_IndexFunc (b.drop (2 + n)) (by rw [List.length_drop]; omega) ((b.drop (2 + n)).length + 1) 0 (by omega) (by omega)
      rw [show ((0 : Nat) : Int) = 0 from rfl] at h3
      rw [h3]
      rw [List.drop_zero, Nat.sub_zero, List.length_drop] at h4
      show (bif decide (z ≥ 0) then _ else _) = _
      by_cases hq : b.drop (2 + n) = List.replicate (b.length - (2 + n)) 0
      · rw [dec_f (fun h => (h4.1 h) hq), if_neg (by intro h; rcases h with h | h; exact hn h; exact h hq)]
        show Option.bind (cutI b 2 (wi (2 + (n : Int)))) _ = _
        rw [h2, show (2 : Int) = ((2 : Nat) : Int) from rfl, cutI_mid (lo := 2) (n := n) (by omega) _ rfl]
        show Option.bind (m_slices_Clone_byte ((b.drop 2).take n)) _ = _
        unfold m_slices_Clone_byte
        rw [appI_ok (by rw [List.length_take, List.length_drop, List.length_nil]; omega)]
        rfl
      · rw [dec_t (h4.2 hq), if_pos (.inr hq)]; rfl
  · rw [dec_f (by omega), if_pos (by omega)]; rfl
theorem two_bytes (x y : Nat) (hx : x < 256) (hy : y < 256) : wi (wi (256 * (x : Int)) + (y : Int)) = ((x * 256 + y : Nat) : Int) := by
  rw [wi_id (z := 256 * (x : Int)) (by omega) (by omega), wi_id (by omega) (by omega)]; omega
theorem n_R35_Unpad_j1 (b : List UInt8) (hz : b.length = 120 ∨ b.length = 1020) : m_R35_Unpad_j1 b = some (unpadS b) := by
  unfold m_R35_Unpad_j1 unpadS
  rw [if_neg (by omega)]
  obtain ⟨hv, hlt⟩ := ofBE2 (b := b) (by omega)
  rw [show (0 : Int) = ((0 : Nat) : Int) from rfl, idx_nat (by omega)]
  show Option.bind (idx b 1) _ = _
  rw [show (1 : Int) = ((1 : Nat) : Int) from rfl, idx_nat (by omega)]
  have hbe : be 2 (ofBE (b.take 2)) = b.take 2 := be_ofBE 2 _ (by rw [List.length_take]; omega)
  have b0 := b[0].toNat_lt
  have b1 := b[1].toNat_lt
  simp only [Option.bind_some]
  rw [two_bytes _ _ b0 b1, ← hv, wi_id (z := (b.length : Int) - 2) (by omega) (by omega)]
  clear hv
  generalize ofBE (b.take 2) = n at *
  by_cases hn : n > b.length - 2
  · rw [dec_t (by omega), if_pos (.inl hn)]; rfl
  · rw [dec_f (by omega)]
    have h2 : wi (2 + (n : Int)) = ((2 + n : Nat) : Int) := by rw [wi_id (by omega) (by omega)]; omega
    show Option.bind (cutI b 2 (wi (2 + (n : Int)))) _ = _
    rw [h2, show (2 : Int) = ((2 : Nat) : Int) from rfl, cutI_mid (lo := 2) (n := n) (by omega) _ rfl]
    have hxl : ((b.drop 2).take n).length = n := by rw [List.length_take, List.length_drop]; omega
    show Option.bind (m_R35_Pad ((b.drop 2).take n) (b.length : Int)) _ = _
    rw [n_R35_Pad _ _ (by omega)]
    have hp : padS ((b.drop 2).take n) (b.length : Int) = (padB ((b.drop 2).take n) b.length, 0) := by
      unfold padS
      rw [if_neg (by omega), if_neg (by rw [hxl]; omega)]
      rfl
    rw [hp]
    show Option.bind (m_R01_Same (padB ((b.drop 2).take n) b.length) b) _ = _
    rw [n_R01_Same _ _ (by rw [padB_length (by omega)]; omega)]
    have hiff : (padB ((b.drop 2).take n) b.length = b) ↔ b.drop (2 + n) = List.replicate (b.length - (2 + n)) 0 := by
      unfold padB
      rw [hxl, hbe, show b.length - 2 - n = b.length - (2 + n) by omega]
      have hsplit : b = b.take 2 ++ (b.drop 2).take n ++ b.drop (2 + n) := by
        conv => lhs; rw [← List.take_append_drop 2 b, ← List.take_append_drop n (b.drop 2), List.drop_drop, ← List.append_assoc]
      constructor
      · intro h
        exact (List.append_cancel_left (h.trans hsplit)).symm
      · intro h
        rw [← h]
        exact hsplit.symm
    show (bif !(padB ((b.drop 2).take n) b.length == b) then _ else _) = _
    by_cases hq : b.drop (2 + n) = List.replicate (b.length - (2 + n)) 0
    · rw [if_neg (by intro h; rcases h with h | h; exact hn h; exact h hq), show (padB ((b.drop 2).take n) b.length == b) = true from beq_iff_eq.2 (hiff.2 hq)]
      rfl
    · rw [if_pos (.inr hq), show (padB ((b.drop 2).take n) b.length == b) = false from by
        rw [beq_eq_false_iff_ne]; exact fun h => hq (hiff.1 h)]
      rfl
theorem n_R35_Unpad (b : List UInt8) : m_R35_Unpad b = some (unpadS b) := by
  unfold m_R35_Unpad
  by_cases h1 : b.length = 120
  · rw [ine_f (by omega)]
    exact n_R35_Unpad_j1 b (.inl h1)
  · rw [ine_t (by omega)]
    by_cases h2 : b.length = 1020
    · rw [ine_f (by omega)]
      exact n_R35_Unpad_j1 b (.inr h2)
    · rw [ine_t (by omega)]
      unfold unpadS
      rw [if_pos ⟨h1, h2⟩]
      rfl
theorem unpad_pad {b : List UInt8} {k : Nat} (hk : k = 120 ∨ k = 1020) (hb : b.length + 2 ≤ k) : unpadS (padB b k) = (b, 0) := by
  have hl := padB_length hb
  have ht : (padB b k).take 2 = be 2 b.length := by
    unfold padB
    rw [List.append_assoc, List.take_append_of_le_length (by rw [be_length]; omega), List.take_of_length_le (by rw [be_length]; omega)]
  have hd : (padB b k).drop 2 = b ++ List.replicate (k - 2 - b.length) 0 := by
    unfold padB
    rw [List.append_assoc, List.drop_append_of_le_length (by rw [be_length]; omega), List.drop_of_length_le (by rw [be_length]; omega), List.nil_append]
  have hn : ofBE (be 2 b.length) = b.length := by rw [ofBE_be, Nat.mod_eq_of_lt (by omega)]
  unfold unpadS
  rw [hl, ht, hn, if_neg (by omega), if_neg, hd, List.take_append_of_le_length (Nat.le_refl _), List.take_length]
  intro h
  rcases h with h | h
  · omega
  · apply h
    rw [← List.drop_drop, hd, List.drop_append_of_le_length (Nat.le_refl _), List.drop_length, List.nil_append]
    congr 1
    omega

/-! ### The law -/
theorem n_awake : m_L35_awake = some true := by kernel_rfl
theorem n_RecordBlobs (b : List UInt8) (z : Int) : m_L35_RecordBlobs b z = some true := by
  unfold m_L35_RecordBlobs
  rw [n_awake]
  show (bif decide ((b.length : Int) > 2000) then _ else _) = _
  by_cases hb : b.length ≤ 2000
  · rw [dec_f (by omega)]
    show Option.bind (m_record_Pad b z) _ = _
    rw [n_record_Pad b z (by omega)]
    show Option.bind (m_R35_Pad b z) _ = _
    rw [n_R35_Pad b z (by omega)]
    show (bif ((padS b z).2 != (padS b z).2) then _ else _) = _
    rw [ine_f rfl]
    have hj : m_L35_RecordBlobs_j1 b = some true := by
      unfold m_L35_RecordBlobs_j1
      rw [n_record_Unpad b hb]
      show Option.bind (m_R35_Unpad b) _ = _
      rw [n_R35_Unpad]
      show (bif ((unpadS b).2 == (unpadS b).2) then _ else _) = _
      rw [ieq_t rfl]
      show Option.bind (m_R01_Same (unpadS b).1 (unpadS b).1) _ = _
      rw [n_R01_Same]
      · show some ((unpadS b).1 == (unpadS b).1) = _
        rw [beq_self_eq_true]
      · unfold unpadS
        split
        · show (0 : Nat) < _; omega
        · split
          · show (0 : Nat) < _; omega
          · show ((b.drop 2).take _).length < _
            rw [List.length_take, List.length_drop]; omega
    show Option.bind (m_R01_Same (padS b z).1 (padS b z).1) _ = _
    have hpl : (padS b z).1.length < 4611686018427387904 := by
      unfold padS
      split
      · show (0 : Nat) < _; omega
      · split
        · show (0 : Nat) < _; omega
        · show (padB b z.toNat).length < _
          rw [padB_length (by omega)]; omega
    rw [n_R01_Same _ _ hpl]
    show (bif !((padS b z).1 == (padS b z).1) then _ else _) = _
    rw [beq_self_eq_true]
    show (bif ((padS b z).2 == 0) then _ else _) = _
    by_cases h0 : (padS b z).2 = 0
    · rw [ieq_t h0]
      have hp : padS b z = (padB b z.toNat, 0) ∧ (z = 120 ∨ z = 1020) ∧ (b.length : Int) ≤ z - 2 := by
        unfold padS at h0 ⊢
        split at h0
        · cases h0
        · split at h0
          · cases h0
          · rename_i h1 h2
            rw [if_neg h1, if_neg h2]
            exact ⟨rfl, by omega, by omega⟩
      obtain ⟨hp, hz, hl⟩ := hp
      rw [hp]
      show Option.bind (m_record_Unpad (padB b z.toNat)) _ = _
      rw [n_record_Unpad _ (by rw [padB_length (by omega)]; omega), unpad_pad (by omega) (by omega)]
      show Option.bind (m_R01_Same b b) _ = _
      rw [n_R01_Same _ _ (by omega)]
      show (bif !(b == b) then _ else _) = _
      rw [beq_self_eq_true]
      exact hj
    · rw [ieq_f h0]
      exact hj
  · rw [dec_t (by omega)]; rfl
end Go.Proofs.YteopjhakjeknaaaDoor

/-
  What the models of epochs' records compute, plain; and the law.
-/
namespace Go.Proofs.YteopjhakjeknaaaDoor
open Go Go.RowKit
set_option linter.unusedVariables false
set_option linter.unusedSimpArgs false
set_option maxRecDepth 20000

theorem right_ofV {v : V} (h : v.rpure = true ∧ v.deep ≤ 16 ∧ v.sz ≤ 1048576) : v.right = true := by
  unfold V.right
  simpa [and_assoc] using h
theorem some_condV {α : Type} (c : Bool) (a b : α) : cond c (some a) (some b) = some (cond c a b) := by cases c <;> rfl
theorem guard_tell {b : Bool} {p q : Prop} {X : Option Bool} (hb : b = true ↔ p) (hx : p → TellsP X q) : TellsP (bif (!b) then some false else X) (p ∧ q) := by
  cases b with
  | false => exact ⟨false, rfl, ⟨fun h => Bool.noConfusion h, fun h => (Bool.noConfusion (hb.2 h.1))⟩⟩
  | true => exact (hx (hb.1 rfl)).iff ⟨fun h => ⟨hb.1 rfl, h⟩, fun h => h.2⟩
def AtP (a : S_api_At) : Prop := NameP a.Name ∧ (1 ≤ a.Seq ∧ a.Seq ≤ 1099511627776)
def hdB (l : List S_api_At) (f : List UInt8) (s : Int) : Bool := match l with | [] => false | a :: _ => (a.Name == f) && (a.Seq == s)
structure ShortE (r : S_api_EpochRecord) : Prop where
  folder : r.Folder.length ≤ 100000
  by_ : r.By.length ≤ 100000
  digest : r.Digest.length ≤ 100000
  pub : r.Public.length ≤ 100000
  link : r.Link.length ≤ 100000
  chain : r.Chain.length ≤ 100000
  names : ∀ a ∈ r.Chain, a.Name.length ≤ 9223372036854775807
def MayE (r : S_api_EpochRecord) : Prop := NameP r.Folder ∧ NameP r.By ∧ (1 ≤ r.Number ∧ r.Number ≤ 1099511627776) ∧ (1 ≤ r.Seq ∧ r.Seq ≤ 1099511627776) ∧ (1 ≤ r.Place ∧ r.Place ≤ 4) ∧ (1 ≤ r.From ∧ r.From ≤ r.Seq) ∧ (1 ≤ (r.Digest.length : Int) ∧ (r.Digest.length : Int) ≤ 64) ∧ (1 ≤ (r.Public.length : Int) ∧ (r.Public.length : Int) ≤ 64) ∧ (1 ≤ (r.Chain.length : Int) ∧ (r.Chain.length : Int) ≤ 4) ∧
  (∀ a ∈ r.Chain, AtP a) ∧ hdB r.Chain r.Folder r.Seq = true ∧ ((r.Place = 1 ∧ r.Number > 1 ∧ 1 ≤ (r.Link.length : Int) ∧ (r.Link.length : Int) ≤ 100) ∨ (¬ (r.Place = 1 ∧ r.Number > 1) ∧ r.Link.length = 0))
theorem n_in (a lo hi : Int) : m_R35_in a lo hi = some (decide (lo ≤ a ∧ a ≤ hi)) := by
  unfold m_R35_in
  by_cases h : a ≥ lo
  · rw [bif_pos (dec_t h)]
    congr 1
    by_cases h2 : a ≤ hi
    · rw [dec_t h2, dec_t ⟨h, h2⟩]
    · rw [dec_f h2, dec_f (fun h => h2 h.2)]
  · rw [bif_neg (dec_f h), dec_f (fun h' => h h'.1)]
theorem n_seq (a : Int) : m_record_seq a = some (decide (1 ≤ a ∧ a ≤ 1099511627776)) := n_in a 1 1099511627776
theorem n_long (l : List UInt8) (m : Int) : m_record_long l m = some (decide (1 ≤ (l.length : Int) ∧ (l.length : Int) ≤ m)) := n_in (l.length : Int) 1 m
theorem n_chain {l : List S_api_At} (f : List UInt8) (s : Int) (hn : ∀ a ∈ l, a.Name.length ≤ 9223372036854775807) : TellsP (m_record_chain l f s) ((1 ≤ (l.length : Int) ∧ (l.length : Int) ≤ 4) ∧ hdB l f s = true ∧ ∀ a ∈ l, AtP a) := by
  unfold m_record_chain
  by_cases h1 : (l.length : Int) < 1
  · rw [bif_pos (dec_t h1)]
    exact ⟨false, rfl, ⟨fun h => Bool.noConfusion h, fun h => absurd h.1.1 (by omega)⟩⟩
  rw [bif_neg (dec_f h1)]
  by_cases h2 : (l.length : Int) > 4
  · rw [bif_pos (dec_t h2)]
    exact ⟨false, rfl, ⟨fun h => Bool.noConfusion h, fun h => absurd h.1.2 (by omega)⟩⟩
  rw [bif_neg (dec_f h2)]
  match l, h1, h2, hn with
  | a :: r, h1, h2, hn =>
    show TellsP (Option.bind (some a) _) _
    rw [Option.bind_some]
    have hh : ((a.Name == f) && ((a.Seq == s) && true)) = hdB (a :: r) f s := by
      show _ = ((a.Name == f) && (a.Seq == s))
      rw [Bool.and_true]
    rw [hh]
    refine (guard_tell (b := hdB (a :: r) f s) Iff.rfl fun _ => ?_).iff (q := _) ⟨fun h => ⟨⟨by omega, by omega⟩, h⟩, fun h => h.2⟩
    have h := loop_tells (len := (a :: r).length) (m_record_chain_l1 (a :: r)) (fun i => ∀ x, (a :: r)[i]? = some x → AtP x) True (fun n i hi => by
      obtain ⟨b, e, ib⟩ := n_tree_Name ((a :: r)[i]).Name (hn _ (List.getElem_mem hi))
      refine ⟨b && decide (1 ≤ ((a :: r)[i]).Seq ∧ ((a :: r)[i]).Seq ≤ 1099511627776), ?_, ?_⟩
      · rw [Bool.and_eq_true, decide_eq_true_eq]
        refine ⟨fun h x hx => ?_, fun h => ?_⟩
        · rw [List.getElem?_eq_getElem hi] at hx
          injection hx with hx
          rw [← hx]; exact ⟨ib.1 h.1, h.2⟩
        · have := h _ (List.getElem?_eq_getElem hi)
          exact ⟨ib.2 this.1, this.2⟩
      · rw [m_record_chain_l1, bif_pos (dec_t (by omega)), idx_nat hi, Option.bind_some, e, Option.bind_some, n_seq, Option.bind_some, wi_succ (by omega)]
        cases b <;> cases decide (1 ≤ ((a :: r)[i]).Seq ∧ ((a :: r)[i]).Seq ≤ 1099511627776) <;> rfl) (fun n => by
      rw [m_record_chain_l1, bif_neg (dec_f (by omega))]
      exact ⟨true, rfl, ⟨fun _ => trivial, fun _ => rfl⟩⟩) ((a :: r).length + 1) 0 (by omega) (by omega)
    refine h.iff ⟨fun h x hx => ?_, fun h => ⟨fun j _ hj x hx => h x (List.mem_of_getElem? hx), trivial⟩⟩
    obtain ⟨i, hi, rfl⟩ := List.getElem_of_mem hx
    exact h.1 i (by omega) hi _ (List.getElem?_eq_getElem hi)
theorem n_mayE {r : S_api_EpochRecord} (h : ShortE r) : TellsP (m_record_mayEpoch r) (MayE r) := by
  obtain ⟨b1, e1, i1⟩ := n_tree_Name r.Folder (by have := h.folder; omega)
  obtain ⟨b2, e2, i2⟩ := n_tree_Name r.By (by have := h.by_; omega)
  obtain ⟨b3, e3, i3⟩ := n_chain r.Folder r.Seq h.names
  simp only [m_record_mayEpoch, m_record_mayEpoch_j1, m_record_mayEpoch_j2, m_record_mayEpoch_j3, m_record_mayEpoch_j4, n_seq, n_long, e1, e2, e3, Option.bind_some, some_condV]
  refine TellsP.of ?_
  unfold MayE
  rw [← i1, ← i2]
  generalize (∀ a ∈ r.Chain, AtP a) = pA at *
  generalize hdB r.Chain r.Folder r.Seq = pH at *
  cases b1 <;> cases b2 <;> cases b3 <;> simp <;> grind (splits := 60)
theorem n_MayE {r : S_api_EpochRecord} (h : ShortE r) : TellsP (m_R35_MayEpoch r) (MayE r) := by
  obtain ⟨b1, e1, i1⟩ := n_R25_Name r.Folder (by have := h.folder; omega)
  obtain ⟨b2, e2, i2⟩ := n_R25_Name r.By (by have := h.by_; omega)
  unfold m_R35_MayEpoch MayE
  simp only [n_in, e1, e2, Option.bind_some]
  refine guard_tell i1 fun _ => guard_tell i2 fun _ => guard_tell decide_eq_true_iff fun _ => guard_tell decide_eq_true_iff fun _ => guard_tell decide_eq_true_iff fun _ => guard_tell decide_eq_true_iff fun _ => guard_tell decide_eq_true_iff fun _ => guard_tell decide_eq_true_iff fun _ => guard_tell decide_eq_true_iff fun hc => ?_
  have hend : TellsP (m_R35_MayEpoch_j1 r) (hdB r.Chain r.Folder r.Seq = true ∧ ((r.Place = 1 ∧ r.Number > 1 ∧ 1 ≤ (r.Link.length : Int) ∧ (r.Link.length : Int) ≤ 100) ∨ (¬ (r.Place = 1 ∧ r.Number > 1) ∧ r.Link.length = 0))) := by
    unfold m_R35_MayEpoch_j1
    have hh : ∃ a l, r.Chain = a :: l := by
      cases hq : r.Chain with
      | nil => rw [hq] at hc; simp at hc
      | cons a l => exact ⟨a, l, rfl⟩
    obtain ⟨a, l, hq⟩ := hh
    have hi : idx r.Chain 0 = some a := by rw [hq]; rfl
    have hb : hdB r.Chain r.Folder r.Seq = ((a.Name == r.Folder) && (a.Seq == r.Seq)) := by rw [hq]; rfl
    rw [hi, hb]
    simp only [m_R35_MayEpoch_j2, n_in, Option.bind_some, some_condV]
    refine TellsP.of ?_
    generalize (a.Name == r.Folder) = pN
    cases pN <;> simp <;> grind (splits := 60)
  have h2 := loop_tells (len := r.Chain.length) (m_R35_MayEpoch_l3 r) (fun i => ∀ x, r.Chain[i]? = some x → AtP x) _ (fun n i hi => by
    obtain ⟨b, e, ib⟩ := n_R25_Name (r.Chain[i]).Name (h.names _ (List.getElem_mem hi))
    refine ⟨b && decide (1 ≤ (r.Chain[i]).Seq ∧ (r.Chain[i]).Seq ≤ 1099511627776), ?_, ?_⟩
    · rw [Bool.and_eq_true, decide_eq_true_eq]
      refine ⟨fun h x hx => ?_, fun h => ?_⟩
      · rw [List.getElem?_eq_getElem hi] at hx
        injection hx with hx
        rw [← hx]; exact ⟨ib.1 h.1, h.2⟩
      · have := h _ (List.getElem?_eq_getElem hi)
        exact ⟨ib.2 this.1, this.2⟩
    · rw [m_R35_MayEpoch_l3, bif_pos (dec_t (by omega)), idx_nat hi, Option.bind_some, e, Option.bind_some, Option.bind_some, n_in, Option.bind_some, wi_succ (by omega)]
      cases b <;> cases decide (1 ≤ (r.Chain[i]).Seq ∧ (r.Chain[i]).Seq ≤ 1099511627776) <;> rfl) (fun n => by
    rw [m_R35_MayEpoch_l3, bif_neg (dec_f (by omega))]
    exact hend) (r.Chain.length + 1) 0 (by omega) (by omega)
  refine h2.iff ⟨fun h => ⟨fun x hx => ?_, h.2⟩, fun h => ⟨fun j _ hj x hx => h.1 x (List.mem_of_getElem? hx), h.2⟩⟩
  obtain ⟨i, hi, rfl⟩ := List.getElem_of_mem hx
  exact h.1 i (by omega) hi _ (List.getElem?_eq_getElem hi)
def eMark : List UInt8 := [101, 112, 111, 99, 104]
def atV (a : S_api_At) : V := listV [wordV a.Name, numV a.Seq]
def etI (r : S_api_EpochRecord) : List V := [wordV eMark, wordV r.Folder, numV r.Number, numV r.Place, numV r.From, numV r.Seq, wordV r.Digest, listV (r.Chain.map atV), wordV r.Public, wordV r.Link, wordV r.By]
def etV (r : S_api_EpochRecord) : V := listV (etI r)
theorem MayE.bounds {r : S_api_EpochRecord} (h : MayE r) : r.Folder.length ≤ 12 ∧ r.By.length ≤ 12 ∧ r.Digest.length ≤ 64 ∧ r.Public.length ≤ 64 ∧ r.Link.length ≤ 100 ∧ r.Chain.length ≤ 4 ∧ ∀ a ∈ r.Chain, a.Name.length ≤ 12 := by
  obtain ⟨⟨_, _, h1⟩, ⟨_, _, h2⟩, h3, h4, h5, h6, h7, h8, h9, h10, h11, h12⟩ := h
  exact ⟨by omega, by omega, by omega, by omega, by omega, by omega, fun a ha => (h10 a ha).1.2.2⟩
theorem MayE.short {r : S_api_EpochRecord} (h : MayE r) : ShortE r := by
  obtain ⟨h1, h2, h3, h4, h5, h6, h7⟩ := h.bounds
  exact ⟨by omega, by omega, by omega, by omega, by omega, by omega, fun a ha => by have := h7 a ha; omega⟩
theorem at_right {a : S_api_At} (h : AtP a) : (atV a).rpure = true ∧ (atV a).deep ≤ 1 ∧ (atV a).sz ≤ 40 := by
  obtain ⟨⟨_, _, h1⟩, h2, h3⟩ := h
  have hn := sz_num (n := a.Seq) (by omega) (by omega)
  refine ⟨rpure_listV (by show 2 ≤ 4096; decide) (fun x hx => ?_), ?_, ?_⟩
  · simp only [List.mem_cons, List.not_mem_nil, or_false] at hx
    rcases hx with rfl | rfl
    · exact rpure_word _
    · exact rpure_numV (by omega) (by omega)
  · exact deep_list (d := 0) (fun x hx => by
      simp only [List.mem_cons, List.not_mem_nil, or_false] at hx
      rcases hx with rfl | rfl
      · rw [deep_word]; omega
      · rw [deep_num]; omega)
  · unfold atV
    rw [sz_list]
    simp only [V.sz.szs, sz_word]
    omega
theorem MayE.right {r : S_api_EpochRecord} (h : MayE r) : (etV r).rpure = true ∧ (etV r).deep ≤ 16 ∧ (etV r).sz ≤ 11003 := by
  obtain ⟨b1, b2, b3, b4, b5, b6, b7⟩ := h.bounds
  obtain ⟨_, _, h3, h4, h5, h6, h7, h8, h9, h10, h11, h12⟩ := h
  have hc : (listV (r.Chain.map atV)).rpure = true ∧ (listV (r.Chain.map atV)).deep ≤ 2 ∧ (listV (r.Chain.map atV)).sz ≤ 1000 := by
    have hi : ∀ x ∈ r.Chain.map atV, x.rpure = true ∧ x.deep ≤ 1 ∧ x.sz ≤ 40 := fun x hx => by
      obtain ⟨a, ha, rfl⟩ := List.mem_map.1 hx
      exact at_right (h10 a ha)
    refine ⟨rpure_listV (by rw [List.length_map]; omega) fun x hx => (hi x hx).1, deep_list fun x hx => (hi x hx).2.1, ?_⟩
    rw [sz_list]
    have h1 := szs_le _ 40 fun x hx => (hi x hx).2.2
    rw [List.length_map] at h1
    omega
  have hi : ∀ x ∈ etI r, x.rpure = true ∧ x.deep ≤ 2 ∧ x.sz ≤ 1000 := by
    have w : ∀ s : List UInt8, s.length ≤ 600 → (wordV s).rpure = true ∧ (wordV s).deep ≤ 2 ∧ (wordV s).sz ≤ 1000 := fun s hs => ⟨rpure_word s, by rw [deep_word]; omega, by rw [sz_word]; omega⟩
    have n : ∀ n : Int, 0 ≤ n → n ≤ 4611686018427387904 → (numV n).rpure = true ∧ (numV n).deep ≤ 2 ∧ (numV n).sz ≤ 1000 := fun n h0 h1 => ⟨rpure_numV h0 h1, by rw [deep_num]; omega, by have := sz_num h0 h1; omega⟩
    intro x hx
    simp only [etI, List.mem_cons, List.not_mem_nil, or_false] at hx
    rcases hx with rfl | rfl | rfl | rfl | rfl | rfl | rfl | rfl | rfl | rfl | rfl
    · exact w _ (by decide)
    · exact w _ (by omega)
    · exact n _ (by omega) (by omega)
    · exact n _ (by omega) (by omega)
    · exact n _ (by omega) (by omega)
    · exact n _ (by omega) (by omega)
    · exact w _ (by omega)
    · exact hc
    · exact w _ (by omega)
    · exact w _ (by omega)
    · exact w _ (by omega)
  refine ⟨rpure_listV (by show 11 ≤ 4096; decide) (fun x hx => (hi x hx).1), ?_, ?_⟩
  · have := deep_list (l := etI r) (d := 2) (fun x hx => (hi x hx).2.1)
    show (listV (etI r)).deep ≤ 16
    omega
  · show (listV (etI r)).sz ≤ _
    rw [sz_list]
    have := szs_le (etI r) 1000 (fun x hx => (hi x hx).2.2)
    have hl : (etI r).length = 11 := rfl
    rw [hl] at this
    omega
theorem MayE.rightV {r : S_api_EpochRecord} (h : MayE r) : (etV r).rpure = true ∧ (etV r).deep ≤ 16 ∧ (etV r).sz ≤ 1048576 := ⟨h.right.1, h.right.2.1, by have := h.right.2.2; omega⟩
theorem n_textV {s : List UInt8} (h : s.length ≤ 100) : m_record_text s = some (wordV s) := by
  unfold m_record_text
  rw [strB_ok h]
  rfl
theorem n_textR {s : List UInt8} (h : s.length ≤ 100) : m_R35_text s = some (wordV s) := by
  unfold m_R35_text
  rw [strB_ok h]
  rfl
theorem n_EpochText {r : S_api_EpochRecord} (h : MayE r) : m_record_EpochText r = some ((etV r).enc, 0) := by
  have hr := right_ofV h.rightV
  obtain ⟨b1, b2, b3, b4, b5, b6, b7⟩ := h.bounds
  unfold m_record_EpochText
  rw [(n_mayE h.short).yes h, Option.bind_some, bif_neg (c := !true) rfl]
  show m_record_EpochText_l2 r (V.mk 3 0 [] []) (r.Chain.length + 1) [] ((0 : Nat) : Int) = _
  have hl := loop_acc (l := r.Chain) (m_record_EpochText_l2 r (V.mk 3 0 [] [])) (fun a => a.Name.length ≤ 12) atV (m_record_EpochText_j1 r (V.mk 3 0 [] [])) none (fun n out i hi ho => by
    have hn := b7 _ (List.getElem_mem hi)
    refine ⟨fun _ => ?_, fun h => absurd hn h⟩
    rw [m_record_EpochText_l2, bif_pos (dec_t (by omega)), idx_nat hi, Option.bind_some, n_textV (by omega), Option.bind_some]
    show Option.bind (appI 64 out [atV r.Chain[i]]) _ = _
    rw [appI_ok (by simp; omega), Option.bind_some, wi_succ (by omega)]) (fun n out => by
    rw [m_record_EpochText_l2, bif_neg (dec_f (by omega))]) (r.Chain.length + 1) 0 [] (by omega) (by omega) (by simp)
  rw [List.drop_zero] at hl
  rw [hl.1 b7, List.nil_append]
  unfold m_record_EpochText_j1
  rw [n_textV (s := [101, 112, 111, 99, 104]) (by decide), Option.bind_some, n_textV (by omega), Option.bind_some, n_textV (s := r.By) (by omega)]
  simp only [m_codec_Num, m_codec_Raw, m_codec_Of, Option.bind_some]
  show Option.bind (m_codec_Encode (etV r)) _ = _
  rw [n_Encode, if_pos hr]
  rfl
theorem n_EpochTextNo {r : S_api_EpochRecord} (hs : ShortE r) (h : ¬ MayE r) : m_record_EpochText r = some ([], 2) := by
  unfold m_record_EpochText
  rw [(n_mayE hs).no h]
  rfl
theorem n_R35_EpochText {r : S_api_EpochRecord} (h : MayE r) : m_R35_EpochText r = some (etV r).enc := by
  have hr := h.rightV
  obtain ⟨b1, b2, b3, b4, b5, b6, b7⟩ := h.bounds
  unfold m_R35_EpochText
  show m_R35_EpochText_l2 r (r.Chain.length + 1) [] ((0 : Nat) : Int) = _
  have hl := loop_acc (l := r.Chain) (m_R35_EpochText_l2 r) (fun a => a.Name.length ≤ 12) atV (m_R35_EpochText_j1 r) none (fun n out i hi ho => by
    have hn := b7 _ (List.getElem_mem hi)
    refine ⟨fun _ => ?_, fun h => absurd hn h⟩
    rw [m_R35_EpochText_l2, bif_pos (dec_t (by omega)), idx_nat hi, Option.bind_some, n_textR (by omega), Option.bind_some, Option.bind_some]
    show Option.bind (appI 64 out [atV r.Chain[i]]) _ = _
    rw [appI_ok (by simp; omega), Option.bind_some, wi_succ (by omega)]) (fun n out => by
    rw [m_R35_EpochText_l2, bif_neg (dec_f (by omega))]) (r.Chain.length + 1) 0 [] (by omega) (by omega) (by simp)
  rw [List.drop_zero] at hl
  rw [hl.1 b7, List.nil_append]
  unfold m_R35_EpochText_j1
  rw [n_textR (s := [101, 112, 111, 99, 104]) (by decide), Option.bind_some, n_textR (by omega), Option.bind_some, n_textR (s := r.By) (by omega)]
  simp only [m_R28_Num, m_R28_Raw, m_R28_Of, Option.bind_some]
  show Option.bind (m_R02_Bytes (V.ht (etV r)) (etV r)) _ = _
  rw [n_R02_Bytes _ _ (Nat.le_refl _) hr.1 hr.2.2]
  rfl
/-! ### Reading -/
def zE : S_api_EpochRecord := S_api_EpochRecord.mk [] 0 0 0 0 [] [] [] [] []
abbrev eKinds : List Int := [2, 2, 1, 1, 1, 1, 2, 3, 2, 2, 2]
theorem kindsE {v : V} (h : kindsB v eKinds = true) : ∃ a0 a1 a2 a3 a4 a5 a6 a7 a8 a9 a10, v.k = 3 ∧ v.l = [a0, a1, a2, a3, a4, a5, a6, a7, a8, a9, a10] ∧ a0.k = 2 ∧ a1.k = 2 ∧ a2.k = 1 ∧ a3.k = 1 ∧ a4.k = 1 ∧ a5.k = 1 ∧ a6.k = 2 ∧ a7.k = 3 ∧ a8.k = 2 ∧ a9.k = 2 ∧ a10.k = 2 := by
  unfold kindsB at h
  rw [Bool.and_eq_true, decide_eq_true_eq, beq_iff_eq] at h
  obtain ⟨h3, h⟩ := h
  rcases hl : v.l with _ | ⟨a0, _ | ⟨a1, _ | ⟨a2, _ | ⟨a3, _ | ⟨a4, _ | ⟨a5, _ | ⟨a6, _ | ⟨a7, _ | ⟨a8, _ | ⟨a9, _ | ⟨a10, _ | ⟨a11, r⟩⟩⟩⟩⟩⟩⟩⟩⟩⟩⟩⟩ <;> rw [hl] at h <;> simp [eKinds] at h
  exact ⟨a0, a1, a2, a3, a4, a5, a6, a7, a8, a9, a10, h3, rfl, h⟩
def atOf (x : V) : S_api_At := match x.l with | [a, b] => ⟨a.b, b.n⟩ | _ => ⟨[], 0⟩
theorem atV_atOf {x : V} (hp : x.rpure = true) (h : kindsB x [2, 1] = true) : atV (atOf x) = x := by
  obtain ⟨a, b, h3, hl, ha, hb⟩ := kinds2 h
  have e := (pure_list hp h3).1
  have pa := V.rpure_items hp h3 a (by rw [hl]; simp)
  have pb := V.rpure_items hp h3 b (by rw [hl]; simp)
  have : atOf x = ⟨a.b, b.n⟩ := by unfold atOf; rw [hl]
  rw [this]
  unfold atV
  simp only
  rw [← pure_word pa ha, ← (pureN pb hb).1, ← hl]
  exact e.symm
theorem at_kinds (a : S_api_At) : kindsB (atV a) [2, 1] = true := rfl
theorem atV_inj {a b : S_api_At} (h : atV a = atV b) : a = b := by
  have h := listV_inj h
  simp only [List.cons.injEq] at h
  cases a; cases b
  simp only at h ⊢
  rw [wordV_inj h.1, numV_inj h.2.1]
theorem etV_inj {r r' : S_api_EpochRecord} (e : etV r = etV r') : r = r' := by
  have e := listV_inj e
  simp only [etI, List.cons.injEq] at e
  obtain ⟨_, e1, e2, e3, e4, e5, e6, e7, e8, e9, e10, _⟩ := e
  have hc : r.Chain = r'.Chain := (List.map_inj_right (fun a b => atV_inj)).1 (listV_inj e7)
  cases r
  cases r'
  simp only at *
  rw [wordV_inj e1, numV_inj e2, numV_inj e3, numV_inj e4, numV_inj e5, wordV_inj e6, hc, wordV_inj e8, wordV_inj e9, wordV_inj e10]
/-- Both readers: a record that may be and its text; or one error. -/
theorem epoch_reads (b : List UInt8) (hb : b.length ≤ 100000) : (∃ r, MayE r ∧ b = (etV r).enc ∧ m_record_ReadEpoch b = some (r, 0) ∧ m_R35_ReadEpoch b = some (r, 0)) ∨ ∃ e : Int, e ≠ 0 ∧ (∀ r, MayE r → b ≠ (etV r).enc) ∧ m_record_ReadEpoch b = some (zE, e) ∧ m_R35_ReadEpoch b = some (zE, e) := by
  unfold m_record_ReadEpoch m_R35_ReadEpoch
  rw [n_Decode, Option.bind_some, n_R02_Decode, Option.bind_some]
  unfold decA
  cases hd : decS b with
  | error e =>
    have he := decS_err hd
    refine .inr ⟨e, by omega, fun r hr h => ?_, ?_, ?_⟩
    · rw [h, decS_enc hr.rightV] at hd; cases hd
    · show (bif (e != 0) then _ else _) = _
      rw [bif_pos (ine_t (by omega))]; rfl
    · show (bif (e != 0) then _ else _) = _
      rw [bif_pos (ine_t (by omega))]; rfl
  | ok v =>
    obtain ⟨hbe, hp, hde, hs⟩ := decS_ok hd
    show (∃ r, MayE r ∧ b = (etV r).enc ∧ (bif ((0 : Int) != 0) then _ else Option.bind (m_codec_Fields v eKinds) _) = _ ∧ (bif ((0 : Int) != 0) then _ else Option.bind (m_R28_Kinds v eKinds) _) = _) ∨ ∃ e : Int, e ≠ 0 ∧ (∀ r, MayE r → b ≠ (etV r).enc) ∧ (bif ((0 : Int) != 0) then _ else Option.bind (m_codec_Fields v eKinds) _) = _ ∧ (bif ((0 : Int) != 0) then _ else Option.bind (m_R28_Kinds v eKinds) _) = _
    rw [bif_neg (ine_f rfl), bif_neg (ine_f rfl), n_Fields _ _ (by decide), n_Kinds _ _ (by decide)]
    have hv : ∀ r, MayE r → b = (etV r).enc → v = etV r := fun r hr h => enc_inj ⟨hp, hde, hs⟩ hr.rightV (by rw [← hbe, h])
    by_cases hk : kindsB v eKinds = true
    case neg =>
      rw [if_neg hk, Option.bind_some, show kindsB v eKinds = false by simpa using hk, Option.bind_some]
      refine .inr ⟨11, by decide, fun r hr h => hk ?_, rfl, rfl⟩
      rw [hv r hr h]; rfl
    rw [if_pos hk, hk]
    obtain ⟨a0, a1, a2, a3, a4, a5, a6, a7, a8, a9, a10, h3, hl, k0, k1, k2, k3, k4, k5, k6, k7, k8, k9, k10⟩ := kindsE hk
    have hit : ∀ x ∈ [a0, a1, a2, a3, a4, a5, a6, a7, a8, a9, a10], x.rpure = true := fun x hx => V.rpure_items hp h3 x (by rw [hl]; exact hx)
    have w0 := pure_word (hit a0 (by simp)) k0
    have w1 := pure_word (hit a1 (by simp)) k1
    have w2 := pureN (hit a2 (by simp)) k2
    have w3 := pureN (hit a3 (by simp)) k3
    have w4 := pureN (hit a4 (by simp)) k4
    have w5 := pureN (hit a5 (by simp)) k5
    have w6 := pure_word (hit a6 (by simp)) k6
    have w7 := pure_list (hit a7 (by simp)) k7
    have w8 := pure_word (hit a8 (by simp)) k8
    have w9 := pure_word (hit a9 (by simp)) k9
    have w10 := pure_word (hit a10 (by simp)) k10
    have p7 : ∀ x ∈ a7.l, x.rpure = true := V.rpure_items (hit a7 (by simp)) k7
    have hvl : v = listV [a0, a1, a2, a3, a4, a5, a6, a7, a8, a9, a10] := by rw [← hl]; exact (pure_list hp h3).1
    have hvs : v.sz ≤ 100000 := by rw [← V.enc_length, ← hbe]; omega
    have hsz : ∀ x ∈ [a0, a1, a2, a3, a4, a5, a6, a7, a8, a9, a10], x.k = 2 → x.b.length ≤ 100000 := fun x hx h2 => by
      have e1 := sz_bytes h2
      have e2 := sz_item h3 (x := x) (by rw [hl]; exact hx)
      omega
    have e1 : ∀ K : (List V × Bool) → Option (S_api_EpochRecord × Int), Option.bind (some (v.l, true)) K = K ([a0, a1, a2, a3, a4, a5, a6, a7, a8, a9, a10], true) := fun K => by rw [hl]; rfl
    rw [e1, Option.bind_some, hl]
    show (∃ r', MayE r' ∧ b = (etV r').enc ∧ (bif !(a0.b == eMark) then some (zE, 11) else m_record_ReadEpoch_l2 a7 a1 a2 a3 a4 a5 a6 a8 a9 a10 (a7.l.length + 1) [] ((0 : Nat) : Int)) = _ ∧ m_R35_ReadEpoch_l2 (v, 0) a1 a2 a3 a4 a5 a6 a8 a9 a10 b 4098 [] ((0 : Nat) : Int) = _) ∨
      ∃ e : Int, e ≠ 0 ∧ (∀ r, MayE r → b ≠ (etV r).enc) ∧ (bif !(a0.b == eMark) then some (zE, 11) else m_record_ReadEpoch_l2 a7 a1 a2 a3 a4 a5 a6 a8 a9 a10 (a7.l.length + 1) [] ((0 : Nat) : Int)) = _ ∧ m_R35_ReadEpoch_l2 (v, 0) a1 a2 a3 a4 a5 a6 a8 a9 a10 b 4098 [] ((0 : Nat) : Int) = _
    have l1 := loop_acc (l := a7.l) (m_record_ReadEpoch_l2 a7 a1 a2 a3 a4 a5 a6 a8 a9 a10) (fun x => kindsB x [2, 1] = true) atOf (m_record_ReadEpoch_j1 a1 a2 a3 a4 a5 a6 a8 a9 a10) (some (zE, 11)) (fun n out i hi ho => by
      rw [m_record_ReadEpoch_l2, bif_pos (dec_t (by omega)), idx_nat hi, Option.bind_some, n_Fields _ _ (by decide), wi_succ (by omega)]
      by_cases hk : kindsB a7.l[i] [2, 1] = true
      · refine ⟨fun _ => ?_, fun h => absurd hk h⟩
        obtain ⟨a, b, h3, hl', ha, hb⟩ := kinds2 hk
        have : atOf a7.l[i] = ⟨a.b, b.n⟩ := by unfold atOf; rw [hl']
        rw [if_pos hk, this, hl']
        show Option.bind (appI 24 out [S_api_At.mk a.b b.n]) _ = _
        rw [appI_ok (by have := w7.2; simp; omega)]
        rfl
      · refine ⟨fun h => absurd h hk, fun _ => ?_⟩
        rw [if_neg hk]
        rfl) (fun n out => by
      rw [m_record_ReadEpoch_l2, bif_neg (dec_f (by omega))]) (a7.l.length + 1) 0 [] (by omega) (by omega) (by simp)
    have hx7 : idx v.l 7 = some a7 := by rw [hl]; rfl
    have l2 := loop_acc (l := a7.l) (m_R35_ReadEpoch_l2 (v, 0) a1 a2 a3 a4 a5 a6 a8 a9 a10 b) (fun x => kindsB x [2, 1] = true) atOf (m_R35_ReadEpoch_j1 a1 a2 a3 a4 a5 a6 a8 a9 a10 b) (some (zE, 11)) (fun n out i hi ho => by
      rw [m_R35_ReadEpoch_l2]
      show (_ → Option.bind (idx v.l 7) _ = _) ∧ (_ → Option.bind (idx v.l 7) _ = _)
      rw [hx7, Option.bind_some, bif_pos (dec_t (by omega)), Option.bind_some, idx_nat hi, Option.bind_some, n_Kinds _ _ (by decide), wi_succ (by omega), Option.bind_some]
      by_cases hk : kindsB a7.l[i] [2, 1] = true
      · refine ⟨fun _ => ?_, fun h => absurd hk h⟩
        obtain ⟨a, b, h3, hl', ha, hb⟩ := kinds2 hk
        have : atOf a7.l[i] = ⟨a.b, b.n⟩ := by unfold atOf; rw [hl']
        rw [hk, this, hl']
        show Option.bind (appI 24 out [S_api_At.mk a.b b.n]) _ = _
        rw [appI_ok (by have := w7.2; simp; omega)]
        rfl
      · refine ⟨fun h => absurd h hk, fun _ => ?_⟩
        rw [show kindsB a7.l[i] [2, 1] = false by simpa using hk]
        rfl) (fun n out => by
      rw [m_R35_ReadEpoch_l2]
      show Option.bind (idx v.l 7) _ = _
      rw [hx7, Option.bind_some, bif_neg (dec_f (by omega))]) 4098 0 [] (by omega) (by have := w7.2; omega) (by simp)
    rw [List.drop_zero, List.nil_append] at l1 l2
    have key : ∀ r', MayE r' → b = (etV r').enc → a0.b = eMark ∧ (∀ x ∈ a7.l, kindsB x [2, 1] = true) ∧ r' = S_api_EpochRecord.mk a1.b a2.n a3.n a4.n a5.n a6.b (a7.l.map atOf) a8.b a9.b a10.b := by
      intro r' hr' h
      have e := hv r' hr' h
      rw [hvl] at e
      have e := listV_inj e
      simp only [etI, List.cons.injEq] at e
      obtain ⟨e0, e1, e2, e3, e4, e5, e6, e7, e8, e9, e10, _⟩ := e
      refine ⟨by rw [e0]; rfl, fun x hx => ?_, ?_⟩
      · rw [e7] at hx
        obtain ⟨a, _, rfl⟩ := List.mem_map.1 (show x ∈ r'.Chain.map atV from hx)
        exact at_kinds a
      · rw [e1, e2, e3, e4, e5, e6, e7, e8, e9, e10]
        have hc : (listV (r'.Chain.map atV)).l.map atOf = r'.Chain := by
          show (r'.Chain.map atV).map atOf = r'.Chain
          rw [List.map_map]
          have : atOf ∘ atV = id := rfl
          rw [this, List.map_id]
        rw [hc]
        rfl
    by_cases hk7 : ∀ x ∈ a7.l, kindsB x [2, 1] = true
    case neg =>
      rw [l1.2 hk7, l2.2 hk7]
      refine .inr ⟨11, by decide, fun r' hr' h => hk7 (key r' hr' h).2.1, ?_, rfl⟩
      cases (a0.b == eMark) <;> rfl
    rw [l1.1 hk7, l2.1 hk7]
    unfold m_record_ReadEpoch_j1 m_R35_ReadEpoch_j1
    generalize hrr : S_api_EpochRecord.mk a1.b a2.n a3.n a4.n a5.n a6.b (a7.l.map atOf) a8.b a9.b a10.b = r at *
    have hsh : ShortE r := by
      subst hrr
      refine ⟨hsz a1 (by simp) k1, hsz a10 (by simp) k10, hsz a6 (by simp) k6, hsz a8 (by simp) k8, hsz a9 (by simp) k9, ?_, ?_⟩
      · show (a7.l.map atOf).length ≤ _
        rw [List.length_map]
        have := w7.2; omega
      · intro a ha
        obtain ⟨x, hx, rfl⟩ := List.mem_map.1 (show a ∈ a7.l.map atOf from ha)
        obtain ⟨p, q, h3', hl', hp', hq'⟩ := kinds2 (hk7 x hx)
        have : atOf x = ⟨p.b, q.n⟩ := by unfold atOf; rw [hl']
        rw [this]
        have s1 := sz_bytes hp'
        have s2 := sz_item h3' (x := p) (by rw [hl']; simp)
        have s3 := sz_item k7 hx
        have s4 := sz_item h3 (x := a7) (by rw [hl]; simp)
        show p.b.length ≤ _
        omega
    have hiff : v = etV r ↔ a0.b = eMark := by
      subst hrr
      constructor
      · intro e
        rw [hvl] at e
        have e := listV_inj e
        simp only [etI, List.cons.injEq] at e
        rw [e.1]; rfl
      · intro e0
        have hc : (a7.l.map atOf).map atV = a7.l := by
          rw [List.map_map]
          conv => rhs; rw [← List.map_id a7.l]
          exact List.map_congr_left fun x hx => atV_atOf (p7 x hx) (hk7 x hx)
        rw [hvl]
        show listV _ = listV [wordV eMark, wordV a1.b, numV a2.n, numV a3.n, numV a4.n, numV a5.n, wordV a6.b, listV ((a7.l.map atOf).map atV), wordV a8.b, wordV a9.b, wordV a10.b]
        rw [hc, ← e0, ← w0, ← w1, ← w2.1, ← w3.1, ← w4.1, ← w5.1, ← w6, ← w7.1, ← w8, ← w9, ← w10]
    by_cases hm : MayE r
    case neg =>
      refine .inr ⟨11, by decide, fun r' hr' h => hm ((key r' hr' h).2.2 ▸ hr'), ?_, ?_⟩
      · rw [(n_mayE hsh).no hm, Option.bind_some]
        cases (a0.b == eMark) <;> rfl
      · rw [(n_MayE hsh).no hm, Option.bind_some]; rfl
    rw [(n_mayE hsh).yes hm, Option.bind_some, (n_MayE hsh).yes hm, Option.bind_some, n_R35_EpochText hm]
    have hr := hm.rightV
    by_cases hq : v = etV r
    · have c1 := hiff.1 hq
      refine .inl ⟨r, hm, by rw [hbe, hq], ?_, ?_⟩
      · rw [c1, beq_self_eq_true]; rfl
      · show Option.bind (m_R01_Same (etV r).enc b) _ = _
        rw [n_R01_Same _ _ (by rw [V.enc_length]; have := hr.2.2; omega), hbe, hq, beq_self_eq_true]
        rfl
    · have c1 : ¬ a0.b = eMark := fun h => hq (hiff.2 h)
      refine .inr ⟨11, by decide, fun r' hr' h => c1 (key r' hr' h).1, ?_, ?_⟩
      · rw [show (a0.b == eMark) = false by simpa using c1]; rfl
      · show Option.bind (m_R01_Same (etV r).enc b) _ = _
        rw [n_R01_Same _ _ (by rw [V.enc_length]; have := hr.2.2; omega), show ((etV r).enc == b) = false from by
          rw [beq_eq_false_iff_ne]
          intro e
          exact hq (enc_inj ⟨hp, hde, hs⟩ hr (by rw [← hbe, e]))]
        rfl
theorem n_SameE {r : S_api_EpochRecord} (h : ShortE r) : m_R35_SameEpoch r r = some true := by
  have h1 := h.digest
  have h2 := h.pub
  have h3 := h.link
  have h4 := h.chain
  unfold m_R35_SameEpoch
  rw [beq_self_eq_true, bif_neg (c := !true) rfl, bif_neg (ine_f rfl), bif_neg (ine_f rfl), bif_neg (ine_f rfl), bif_neg (ine_f rfl), beq_self_eq_true, bif_neg (c := !true) rfl, bif_neg (ine_f rfl)]
  have hl := loop_then (len := r.Chain.length) (m_R35_SameEpoch_l2 r r) (fun _ => True) (m_R35_SameEpoch_j1 r r) (some false) (fun n i hi => by
    rw [m_R35_SameEpoch_l2, bif_pos (dec_t (by omega)), idx_nat hi, Option.bind_some, Option.bind_some, wi_succ (by omega), beq_self_eq_true, beq_self_eq_true]
    exact ⟨fun _ => rfl, fun h => absurd trivial h⟩) (fun n => by rw [m_R35_SameEpoch_l2, bif_neg (dec_f (by omega))]) (r.Chain.length + 1) 0 (by omega) (by omega)
  show m_R35_SameEpoch_l2 r r (r.Chain.length + 1) ((0 : Nat) : Int) = _
  rw [hl.1 fun _ _ _ => trivial]
  unfold m_R35_SameEpoch_j1
  rw [n_R01_Same _ _ (by omega), n_R01_Same _ _ (by omega), n_R01_Same _ _ (by omega)]
  simp
theorem law_ej1 (b : List UInt8) (hb : b.length ≤ 100000) : m_L35_RecordEpoch_j1 b = some true := by
  unfold m_L35_RecordEpoch_j1
  rcases epoch_reads b hb with ⟨r, hm, hbe, e1, e2⟩ | ⟨e, he, _, e1, e2⟩
  · rw [e1, e2, Option.bind_some, Option.bind_some, bif_neg (ine_f rfl)]
    show Option.bind (m_R35_SameEpoch r r) _ = _
    rw [n_SameE hm.short, Option.bind_some, bif_neg (c := !true) rfl]
    show Option.bind (m_record_EpochText r) _ = _
    rw [n_EpochText hm, Option.bind_some, bif_neg (ine_f rfl), bif_pos (ieq_t rfl), hbe, n_R01_Same _ _ (by rw [V.enc_length]; have := hm.right.2.2; omega), Option.bind_some, beq_self_eq_true]
  · rw [e1, e2, Option.bind_some, Option.bind_some, bif_neg (ine_f rfl)]
    have hz : ShortE zE := ⟨by decide, by decide, by decide, by decide, by decide, by decide, fun a ha => by cases ha⟩
    show Option.bind (m_R35_SameEpoch zE zE) _ = _
    rw [n_SameE hz, Option.bind_some, bif_neg (c := !true) rfl]
    have hz2 : ¬ MayE zE := fun h => by have := h.1.2.1; exact absurd this (by decide)
    show Option.bind (m_record_EpochText zE) _ = _
    rw [n_EpochTextNo hz hz2, Option.bind_some]
    show (bif (e != 0) then _ else _) = _
    rw [bif_pos (ine_t he)]
theorem n_RecordEpoch (r : S_api_EpochRecord) (b : List UInt8) (hnm : ∀ a ∈ r.Chain, a.Name.length ≤ 9223372036854775807) : m_L35_RecordEpoch r b = some true := by
  unfold m_L35_RecordEpoch
  rw [n_awake, Option.bind_some, bif_neg (c := !true) rfl]
  by_cases h1 : r.Folder.length ≤ 20
  case neg => rw [bif_pos (dec_t (by omega))]
  rw [bif_neg (dec_f (by omega))]
  by_cases h2 : r.By.length ≤ 20
  case neg => rw [bif_pos (dec_t (by omega))]
  rw [bif_neg (dec_f (by omega))]
  by_cases h3 : r.Chain.length ≤ 10
  case neg => rw [bif_pos (dec_t (by omega))]
  rw [bif_neg (dec_f (by omega))]
  by_cases h4 : r.Digest.length ≤ 100
  case neg => rw [bif_pos (dec_t (by omega))]
  rw [bif_neg (dec_f (by omega))]
  by_cases h5 : r.Public.length ≤ 100
  case neg => rw [bif_pos (dec_t (by omega))]
  rw [bif_neg (dec_f (by omega))]
  by_cases h6 : r.Link.length ≤ 200
  case neg => rw [bif_pos (dec_t (by omega))]
  rw [bif_neg (dec_f (by omega))]
  by_cases hb : b.length ≤ 1500
  case neg => rw [bif_pos (dec_t (by omega))]
  rw [bif_neg (dec_f (by omega))]
  have hs : ShortE r := ⟨by omega, by omega, by omega, by omega, by omega, by omega, hnm⟩
  by_cases hm : MayE r
  · rw [n_EpochText hm, Option.bind_some, (n_MayE hs).yes hm, Option.bind_some, bif_pos rfl]
    have hsz := hm.right.2.2
    have hl : (etV r).enc.length ≤ 100000 := by rw [V.enc_length]; omega
    show Option.bind (m_record_ReadEpoch (etV r).enc) _ = _
    rcases epoch_reads (etV r).enc hl with ⟨r', hm', hbe, e1, e2⟩ | ⟨e, he, hno, e1, e2⟩
    · have : r' = r := etV_inj (enc_inj hm'.rightV hm.rightV hbe.symm)
      subst this
      rw [e1, Option.bind_some, bif_neg (ine_f rfl), n_R35_EpochText hm, Option.bind_some]
      show Option.bind (m_R01_Same (etV r').enc (etV r').enc) _ = _
      rw [n_R01_Same _ _ (by omega), Option.bind_some, beq_self_eq_true, bif_neg (c := !true) rfl, bif_neg (ine_f rfl), n_SameE hs, Option.bind_some, bif_neg (c := !true) rfl]
      exact law_ej1 b (by omega)
    · exact absurd rfl (hno r hm)
  · rw [n_EpochTextNo hs hm, Option.bind_some, (n_MayE hs).no hm, Option.bind_some, bif_neg (c := false) rfl, bif_neg (ine_f rfl), bif_neg (dec_f (by simp))]
    exact law_ej1 b (by omega)
end Go.Proofs.YteopjhakjeknaaaDoor
