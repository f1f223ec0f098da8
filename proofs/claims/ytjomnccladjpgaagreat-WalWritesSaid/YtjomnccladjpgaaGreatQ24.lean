/-
  Texts joined: see the remark at the head of each part.
-/
import Derived.Test.YtjomnccladjpgaaGreatQ23
import Derived.Test.YtjomnccladjpgaaGreatQ19
import Derived.Test.YtjomnccladjpgaaGreatQ04
import Derived.ProofKit
import Derived.Lib.SmallJoins
set_option linter.unusedVariables false
set_option linter.unusedSimpArgs false
/-
 Plain: lists of writes told as maps; what Commit leaves right.
-/
namespace Go.Proofs.YtjomnccladjpgaaGreat
open Go Go.RowKit
set_option linter.unusedVariables false
set_option linter.unusedSimpArgs false
section
variable {ν : Type}
theorem mf_nil (k : Int) : zAu ([] : List (Int × ν)) k = none := rfl
theorem zFr (a : Int × ν) (l : List (Int × ν)) (k : Int) : zAu (a :: l) k = if k = a.1 then some a.2 else zAu l k := by
 unfold zAu mpos
 rw [List.findIdx?_cons]
 by_cases h : k = a.1
 ·
  rw [if_pos (by simpa using h), if_pos h]
  rfl
 ·
  rw [if_neg (by simpa using h), if_neg h]
  cases List.findIdx? (fun p : Int × ν => k == p.1) l <;> rfl
theorem zKY (k : Int) (v : ν) : mset [] k v = [(k, v)] := rfl
theorem zIP (a : Int × ν) (l : List (Int × ν)) (k : Int) (v : ν) : mset (a :: l) k v = if k = a.1 then (k, v) :: l else a :: mset l k v := by
 unfold mset mpos
 rw [List.findIdx?_cons]
 by_cases h : k = a.1
 ·
  rw [if_pos (by simpa using h), if_pos h]
  rfl
 ·
  rw [if_neg (by simpa using h), if_neg h]
  cases List.findIdx? (fun p : Int × ν => k == p.1) l <;> rfl
theorem mf_ms (l : List (Int × ν)) (k q : Int) (v : ν) : zAu (mset l k v) q = if q = k then some v else zAu l q := by
 induction l with
 | nil => rw [zKY, zFr, mf_nil]
 | cons a l ih =>
  rw [zIP]
  by_cases h : k = a.1
  ·
   rw [if_pos h, zFr, zFr]
   by_cases h2 : q = k
   · rw [if_pos h2, if_pos h2]
   · rw [if_neg h2, if_neg h2, if_neg (by rw [← h]; exact h2)]
  ·
   rw [if_neg h, zFr, zFr, ih]
   by_cases h2 : q = k
   · rw [if_pos h2, if_pos h2, if_neg (by rw [h2]; exact h)]
   · rw [if_neg h2, if_neg h2]
theorem ms_mem (l : List (Int × ν)) (k q : Int) (v : ν) (h : q ∈ (mset l k v).map (·.1)) : q = k ∨ q ∈ l.map (·.1) := by
 induction l with
 | nil => rw [zKY] at h; simp at h; exact .inl h
 | cons a l ih =>
  rw [zIP] at h
  by_cases h2 : k = a.1
  ·
   rw [if_pos h2, List.map_cons] at h
   rcases List.mem_cons.1 h with h | h
   · exact .inl h
   · exact .inr (by rw [List.map_cons]; exact List.mem_cons_of_mem _ h)
  ·
   rw [if_neg h2, List.map_cons] at h
   rw [List.map_cons]
   rcases List.mem_cons.1 h with h | h
   · exact .inr (by rw [h]; exact List.mem_cons_self)
   · exact (ih h).imp id (List.mem_cons_of_mem _)
theorem ms_nodup (l : List (Int × ν)) (k : Int) (v : ν) (h : (l.map (·.1)).Nodup) : ((mset l k v).map (·.1)).Nodup := by
 induction l with
 | nil => rw [zKY]; simp
 | cons a l ih =>
  rw [List.map_cons, List.nodup_cons] at h
  rw [zIP]
  by_cases h2 : k = a.1
  ·
   rw [if_pos h2, List.map_cons, List.nodup_cons]
   exact ⟨by show k ∉ _; rw [h2]; exact h.1, h.2⟩
  ·
   rw [if_neg h2, List.map_cons, List.nodup_cons]
   refine ⟨fun hm => ?_, ih h.2⟩
   rcases ms_mem l k a.1 v hm with e | hm
   · exact h2 e.symm
   · exact h.1 hm
theorem zJ7 (l : List (Int × ν)) (k : Int) : k ∈ l.map (·.1) ↔ zAu l k ≠ none := by
 induction l with
 | nil => simp [mf_nil]
 | cons a l ih =>
  rw [List.map_cons, zFr, List.mem_cons]
  by_cases h : k = a.1
  · simp [h]
  ·
   rw [if_neg h, ← ih]
   simp [h]
theorem ms_lenLe (l : List (Int × ν)) (k : Int) (v : ν) : (mset l k v).length ≤ l.length + 1 := by
 induction l with
 | nil => simp [zKY]
 | cons a l ih =>
  rw [zIP]
  split
  · simp
  · simp only [List.length_cons]; omega
end
theorem srt_ext : ∀ (a b : List Int), a.Pairwise (· < ·) → b.Pairwise (· < ·) → (∀ x, x ∈ a ↔ x ∈ b) → a = b
 | [], [], _, _, _ => rfl
 | [], y :: s, _, _, h => absurd ((h y).2 List.mem_cons_self) List.not_mem_nil
 | x :: r, [], _, _, h => absurd ((h x).1 List.mem_cons_self) List.not_mem_nil
 | x :: r, y :: s, ha, hb, h => by
  rw [List.pairwise_cons] at ha hb
  have e : x = y := by
   rcases List.mem_cons.1 ((h x).1 List.mem_cons_self) with e | e
   · exact e
   ·
    rcases List.mem_cons.1 ((h y).2 List.mem_cons_self) with e2 | e2
    · exact e2.symm
    ·
     have := hb.1 x e
     have := ha.1 y e2
     omega
  subst e
  refine congrArg (x :: ·) (srt_ext r s ha.2 hb.2 fun z => ⟨fun hz => ?_, fun hz => ?_⟩)
  ·
   rcases List.mem_cons.1 ((h z).1 (List.mem_cons_of_mem _ hz)) with e | e
   · have := ha.1 z hz; omega
   · exact e
  ·
   rcases List.mem_cons.1 ((h z).2 (List.mem_cons_of_mem _ hz)) with e | e
   · have := hb.1 z hz; omega
   · exact e
def putL (w : zC) : List zC → List zC
 | [] => [w]
 | x :: r => if w.Home ≤ x.Home then w :: (x :: r).filter (fun y => y.Home != w.Home) else x :: putL w r
def wP (w : zC) : Int × List UInt8 := (w.Home, w.Data)
theorem mf_w (w : zC) (l : List (Int × List UInt8)) (q : Int) : zAu (wP w :: l) q = if q = w.Home then some w.Data else zAu l q := zFr ..
theorem mf_flt (k q : Int) (h : q ≠ k) : ∀ (l : List zC), zAu ((l.filter fun y => y.Home != k).map wP) q = zAu (l.map wP) q
 | [] => rfl
 | x :: r => by
  rw [List.map_cons, mf_w, List.filter_cons]
  by_cases e : x.Home = k
  · rw [if_neg (by simp [e]), mf_flt k q h r, if_neg (by rw [e]; exact h)]
  · rw [if_pos (by simp [e]), List.map_cons, mf_w, mf_flt k q h r]
theorem mf_put (w : zC) (q : Int) : ∀ (l : List zC), zAu ((putL w l).map wP) q = if q = w.Home then some w.Data else zAu (l.map wP) q
 | [] => by show zAu [wP w] q = _; rw [mf_w, mf_nil]; rfl
 | x :: r => by
  unfold putL
  by_cases hle : w.Home ≤ x.Home
  ·
   rw [if_pos hle, List.map_cons, mf_w]
   by_cases e : q = w.Home
   · rw [if_pos e, if_pos e]
   ·
    rw [if_neg e, if_neg e]
    exact mf_flt _ _ e _
  ·
   rw [if_neg hle, List.map_cons, mf_w, mf_put w q r, List.map_cons, mf_w]
   by_cases e : q = x.Home
   · rw [if_pos e, if_pos e, if_neg (by omega)]
   · rw [if_neg e, if_neg e]
theorem zJ0 (w y : zC) : ∀ (l : List zC), y ∈ putL w l → y = w ∨ y ∈ l
 | [], h => .inl (List.mem_singleton.1 h)
 | x :: r, h => by
  unfold putL at h
  split at h
  ·
   rcases List.mem_cons.1 h with h | h
   · exact .inl h
   · exact .inr (List.mem_filter.1 h).1
  ·
   rcases List.mem_cons.1 h with h | h
   · exact .inr (by rw [h]; exact List.mem_cons_self)
   · exact (zJ0 w y r h).imp id (List.mem_cons_of_mem _)
theorem put_len (w : zC) : ∀ (l : List zC), (putL w l).length ≤ l.length + 1
 | [] => Nat.le_refl _
 | x :: r => by
  unfold putL
  split
  ·
   have := List.length_filter_le (fun y : zC => y.Home != w.Home) (x :: r)
   rw [List.length_cons]; omega
  ·
   have := put_len w r
   simp only [List.length_cons]; omega
theorem put_srt (w : zC) : ∀ (l : List zC), l.Pairwise (fun a b => a.Home < b.Home) → (putL w l).Pairwise fun a b => a.Home < b.Home
 | [], _ => List.pairwise_singleton ..
 | x :: r, h => by
  unfold putL
  have h2 := List.pairwise_cons.1 h
  split
  ·
   rename_i hle
   refine List.pairwise_cons.2 ⟨fun y hy => ?_, h.filter _⟩
   obtain ⟨m1, m2⟩ := List.mem_filter.1 hy
   have hne : y.Home ≠ w.Home := by simpa using m2
   rcases List.mem_cons.1 m1 with rfl | m1
   · omega
   · have := h2.1 y m1; omega
  ·
   rename_i hle
   refine List.pairwise_cons.2 ⟨fun y hy => ?_, put_srt w r h2.2⟩
   rcases zJ0 w y r hy with rfl | hy
   · omega
   · exact h2.1 y hy
theorem zHX (l : List zC) (w : zC) (hl : l.length ≤ 1000) : ∀ (n z : Nat) (out : List zC) (b : Bool), z ≤ l.length → l.length - z < n → out.length ≤ z + (if b then 1 else 0) →
  zBb l w n out b (z : Int) = some (out ++ if b then (l.drop z).filter (fun y => y.Home != w.Home) else putL w (l.drop z))
 | 0, z, _, _, _, h, _ => by omega
 | n + 1, z, out, b, hz, hn, ho => by
  unfold zBb
  by_cases hlt : z < l.length
  ·
   rw [zE (qK (by omega)), qY hlt, Option.bind_some, List.drop_eq_getElem_cons hlt]
   have j3 : ∀ (o : List zC) (b' : Bool), o.length ≤ z + (if b' then 1 else 0) → zC8 (zBb l w n) l[z] w (z : Int) o b' = some ((if l[z].Home = w.Home then o else o ++ [l[z]]) ++ if b' then (l.drop (z + 1)).filter (fun y => y.Home != w.Home) else putL w (l.drop (z + 1))) := by
    intro o b' ho'
    have : (if b' then 1 else 0 : Nat) ≤ 1 := by split <;> omega
    unfold zC8
    rw [yK (by omega)]
    by_cases e : l[z].Home = w.Home
    ·
     rw [zD (zBH e), if_pos e]
     exact zHX l w hl n (z + 1) o b' (by omega) (by omega) (by omega)
    ·
     rw [zE (zDL e), if_neg e, zBV (by show (o.length + 1) * 32 ≤ _; omega), Option.bind_some]
     exact zHX l w hl n (z + 1) _ b' (by omega) (by omega) (by simp; omega)
   cases b with
   | true =>
    rw [zD (by rfl), j3 _ _ ho]
    simp only [if_true, List.filter_cons]
    by_cases e : l[z].Home = w.Home
    · rw [if_pos e, if_neg (by simp [e])]
    ·
     rw [if_neg e, if_pos (by simp [e]), List.append_assoc]
     rfl
   | false =>
    rw [zE (by rfl)]
    simp only [Bool.false_eq_true, if_false] at ho ⊢
    unfold putL
    by_cases hle : w.Home ≤ l[z].Home
    ·
     rw [zE (qK hle), zBV (by show (out.length + 1) * 32 ≤ _; omega), Option.bind_some, j3 _ _ (by simp; omega), if_pos hle]
     simp only [if_true, List.filter_cons]
     by_cases e : l[z].Home = w.Home
     ·
      rw [if_pos e, if_neg (by simp [e]), List.append_assoc]
      rfl
     ·
      rw [if_neg e, if_pos (by simp [e]), List.append_assoc, List.append_assoc]
      rfl
    ·
     rw [zD (zZ hle), j3 _ _ (by simp; omega), if_neg hle, if_neg (by omega), List.append_assoc]
     rfl
  ·
   rw [zD (zZ (by omega)), List.drop_eq_nil_of_le (by omega)]
   unfold zFH
   cases b with
   | true => rw [zD (by rfl)]; simp
   | false =>
    simp only [Bool.false_eq_true, if_false] at ho ⊢
    rw [zE (by rfl), zBV (by show (out.length + 1) * 32 ≤ _; omega), Option.bind_some]
    rfl
theorem nn_put (l : List zC) (w : zC) (hl : l.length ≤ 1000) : zHK l w = some (putL w l) := by
 have := zHX l w hl (l.length + 1) 0 [] false (Nat.zero_le _) (by omega) (Nat.zero_le _)
 rw [List.drop_zero] at this
 exact this
structure MW (n : Nat) (ms : List (Int × List UInt8)) (want : List zC) : Prop where
 srt : want.Pairwise fun a b => a.Home < b.Home
 nd : (ms.map (·.1)).Nodup
 eq : ∀ q, zAu ms q = zAu (want.map wP) q
 len : want.length ≤ n
 mln : ms.length ≤ n
 key : ∀ w ∈ want, 0 ≤ w.Home ∧ w.Home < 1000
theorem MW.nil : MW 0 [] [] := ⟨.nil, .nil, fun _ => rfl, Nat.le_refl _, Nat.le_refl _, fun w h => absurd h List.not_mem_nil⟩
theorem MW.le {n m : Nat} {ms : List (Int × List UInt8)} {want : List zC} (h : MW n ms want) (hm : n ≤ m) : MW m ms want := ⟨h.srt, h.nd, h.eq, by have := h.len; omega, by have := h.mln; omega, h.key⟩
theorem MW.put {n : Nat} {ms : List (Int × List UInt8)} {want : List zC} (h : MW n ms want) (w : zC) (h0 : 0 ≤ w.Home) (h1 : w.Home < 1000) : MW (n + 1) (mset ms w.Home w.Data) (putL w want) :=
 ⟨put_srt w _ h.srt, ms_nodup _ _ _ h.nd, fun q => by rw [mf_ms, mf_put, h.eq], by have := put_len w want; have := h.len; omega, by have := ms_lenLe ms w.Home w.Data; have := h.mln; omega, fun y hy => by
  rcases zJ0 w y _ hy with rfl | hy
  · exact ⟨h0, h1⟩
  · exact h.key y hy⟩
theorem MW.keys {n : Nat} {ms : List (Int × List UInt8)} {want : List zC} (h : MW n ms want) : (ms.map (·.1)).mergeSort (fun x y => decide (x ≤ y)) = want.map (·.Home) := by
 refine srt_ext _ _ ?_ ?_ fun x => ?_
 ·
  have h1 := List.pairwise_mergeSort (le := fun x y : Int => decide (x ≤ y)) (fun a b c h1 h2 => by simp at h1 h2 ⊢; omega) (fun a b => by simp; omega) (ms.map (·.1))
  have h2 : ((ms.map (·.1)).mergeSort fun x y => decide (x ≤ y)).Nodup := (List.mergeSort_perm _ _).nodup_iff.2 h.nd
  have := h1.and h2
  exact this.imp fun ⟨a, b⟩ => by simp at a; omega
 · exact List.pairwise_map.2 h.srt
 ·
  rw [List.mem_mergeSort, zJ7, h.eq, ← zJ7, List.map_map]
  rfl
theorem MW.keysI {n : Nat} {ms : List (Int × List UInt8)} {want : List zC} (h : MW n ms want) (hn : n ≤ 1000) : keysI ms = some (want.map (·.Home)) := by
 unfold Go.Proofs.YtjomnccladjpgaaGreat.keysI
 rw [if_pos, h.keys]
 refine ⟨by have := h.mln; omega, h.nd, fun p hp => ?_⟩
 have h1 : p.1 ∈ ms.map (·.1) := List.mem_map_of_mem hp
 rw [zJ7, h.eq, ← zJ7, List.map_map] at h1
 obtain ⟨w, hw, e⟩ := List.mem_map.1 h1
 have := h.key w hw
 have : w.Home = p.1 := e
 omega
theorem MW.wlen {n : Nat} {ms : List (Int × List UInt8)} {want : List zC} (h : MW n ms want) : ms.length = want.length := by
 have := congrArg List.length h.keys
 rwa [List.length_mergeSort, List.length_map, List.length_map] at this
theorem mf_at : ∀ (l : List zC), l.Pairwise (fun a b => a.Home < b.Home) → ∀ w ∈ l, zAu (l.map wP) w.Home = some w.Data
 | [], _, w, h => absurd h List.not_mem_nil
 | x :: r, hs, w, h => by
  have h2 := List.pairwise_cons.1 hs
  rw [List.map_cons, mf_w]
  rcases List.mem_cons.1 h with rfl | h
  · rw [if_pos rfl]
  ·
   have := h2.1 w h
   rw [if_neg (by omega)]
   exact mf_at r h2.2 w h
theorem com_ok {l : Lgs} {d : Dsk} (g : Dok d) (o : Lok d l) (ws : List zC) : Dok (l.com_ d ws).2.1 ∧ Lok (l.com_ d ws).2.1 (l.com_ d ws).2.2 ∧ (l.com_ d ws).2.1.now.length = d.now.length ∧ (l.com_ d ws).2.1.wait.length ≤ d.wait.length + 3 * ws.length + 2 := by
 unfold Lgs.com_
 by_cases ha : l.al d = 0
 case neg => rw [if_pos ha]; exact ⟨g, o, rfl, by show d.wait.length ≤ _; omega⟩
 rw [if_neg (by simpa using ha)]
 by_cases hg : Good l.s d.now.length ws
 case neg => rw [if_pos hg]; exact ⟨g, o, rfl, by show d.wait.length ≤ _; omega⟩
 rw [if_neg (by simpa using hg)]
 by_cases h3 : 2 * ws.length + 1 > l.s
 · rw [if_pos h3]; exact ⟨g, o, rfl, by show d.wait.length ≤ _; omega⟩
 rw [if_neg h3]
 by_cases h0 : ws.length = 0
 · rw [if_pos h0]; exact ⟨g, o, rfl, by show d.wait.length ≤ _; omega⟩
 rw [if_neg h0]
 have := o.us
 by_cases h4 : 2 * ws.length + 1 > l.s - l.used
 ·
  rw [if_pos h4]
  obtain ⟨c1, c2, c3, c4, c5, c6, c7⟩ := zI6 g o ha
  by_cases h5 : (l.chk d).1 ≠ 0
  · rw [if_pos h5]; exact ⟨c1, c2, c3, by omega⟩
  rw [if_neg h5]
  have h6 : (l.chk d).2.2.used = 0 := by
   rcases c6 with e | e | e
   · exact absurd (by rw [e]; decide) h5
   · exact absurd (by rw [e]; decide) h5
   · exact e.2.2
  obtain ⟨e1, e2, e3, e4, e5, e6⟩ := cmt_ok c1 c2 (ws := ws) (by rw [c7, c3]; exact hg) (by rw [h6, c7]; omega)
  exact ⟨e1, e2, e3.trans c3, by omega⟩
 ·
  rw [if_neg h4]
  obtain ⟨e1, e2, e3, e4, e5, e6⟩ := cmt_ok g o (ws := ws) hg (by omega)
  exact ⟨e1, e2, e3, by omega⟩
end Go.Proofs.YtjomnccladjpgaaGreat

/-
 Plain: a transaction against the document's log.
-/
namespace Go.Proofs.YtjomnccladjpgaaGreat
open Go Go.RowKit
set_option linter.unusedVariables false
set_option linter.unusedSimpArgs false
section
variable {H : Hp} {i j k q : Nat} {d : Dsk} {l : Lgs}
theorem zJd (h : LP H i j d l) (g : Dok d) {t m : Nat} {b : Bool} (ht : H.tx[t]? = some ⟨some j, l.com, b, m⟩) : zAs (some t) H = some (if l.al d ≠ 0 then l.al d else if b then 34 else 0) := by
 unfold zAs
 show Option.bind (H.tx[t]?) _ = _
 rw [ht, Option.bind_some]
 show Option.bind (yU (some j) H) _ = _
 rw [zFR h g, Option.bind_some]
 by_cases ha : l.al d = 0
 ·
  rw [zD (zBH ha), if_neg (by simpa using ha)]
  cases b with
  | true => rfl
  | false =>
   show Option.bind (H.lg[j]?) _ = _
   rw [h.lg, Option.bind_some]
   show (bif (l.com != l.com) then some 34 else some 0) = _
   rw [zD (zBH rfl)]
   rfl
 · rw [zE (zDL ha), if_pos ha]
theorem t_over (h : LP H i j d l) (g : Dok d) {t m : Nat} {c : Int} (ht : H.tx[t]? = some ⟨some j, c, true, m⟩) : ∃ x, qT (some t) H = some (x, H) ∧ x ≠ 0 := by
 have key : ∃ x, zAs (some t) H = some x ∧ x ≠ 0 := by
  unfold zAs
  show ∃ x, Option.bind (H.tx[t]?) _ = _ ∧ _
  rw [ht, Option.bind_some]
  show ∃ x, Option.bind (yU (some j) H) _ = _ ∧ _
  rw [zFR h g, Option.bind_some]
  by_cases ha : l.al d = 0
  ·
   rw [zD (zBH ha)]
   exact ⟨34, rfl, by decide⟩
  ·
   rw [zE (zDL ha)]
   exact ⟨_, rfl, ha⟩
 obtain ⟨x, e1, e2⟩ := key
 unfold qT
 rw [e1, Option.bind_some, zE (zDL e2)]
 exact ⟨x, rfl, e2⟩
structure TS (H : Hp) (t j : Nat) (c : Int) (m : Nat) (ms : List (Int × List UInt8)) : Prop where
 tx : H.tx[t]? = some ⟨some j, c, false, m⟩
 mp : H.mp[m]? = some ms
theorem LP.mp (h : LP H i j d l) (m : Nat) (v : List (Int × List UInt8)) : LP (H.st_mp m v) i j d l := ⟨h.dsk.lg rfl rfl, h.lg⟩
theorem LR.mp (h : LR H k q d l) (m : Nat) (v : List (Int × List UInt8)) : LR (H.st_mp m v) k q d l := ⟨⟨h.dsk.at_⟩, h.lg⟩
theorem t_Write (h : LP H i j d l) (g : Dok d) (o : Lok d l) (ha : l.al d = 0) {t m : Nat} {ms : List (Int × List UInt8)} (ht : TS H t j l.com m ms) (z : Int) (b : List UInt8) :
  zBw (some t) z b H = some (if z < 0 ∨ ((d.now.length - 2 - l.s : Nat) : Int) ≤ z then (31, H) else if b.length ≠ 64 then (2, H) else (0, H.st_mp m (mset ms z b))) := by
 unfold zBw
 rw [zJd h g ht.tx, if_neg (by simpa using ha), Option.bind_some]
 show (bif decide (z < 0) then some ((31 : Int), H) else Option.bind (H.tx[t]?) _) = _
 by_cases h0 : z < 0
 · rw [zE (qK h0), if_pos (.inl h0)]
 rw [zD (zZ h0), ht.tx, Option.bind_some]
 show Option.bind (qP (some j) H) _ = _
 rw [zKH h g o, Option.bind_some]
 by_cases h1 : ((d.now.length - 2 - l.s : Nat) : Int) ≤ z
 · rw [zE (qK h1), if_pos (.inr h1)]
 rw [zD (zZ h1), if_neg (by omega)]
 by_cases h2 : b.length = 64
 ·
  rw [zD (zBH (by omega)), if_neg (by simpa using h2)]
  unfold zBF
  rw [zBV (by rw [List.length_nil]; omega), Option.bind_some]
  show Option.bind (H.mp[m]?) _ = _
  rw [ht.mp, Option.bind_some]
  rfl
 · rw [zE (zDL (by omega)), if_pos h2]
theorem t_Read (h : LP H i j d l) (g : Dok d) (ha : l.al d = 0) {t m : Nat} {ms : List (Int × List UInt8)} (ht : TS H t j l.com m ms) {z : Int} {b : List UInt8} (hb : b.length = 64) (hz : zAu ms z = some b) : zCp (some t) z H = some (b, 0) := by
 unfold zCp
 rw [zJd h g ht.tx, if_neg (by simpa using ha), Option.bind_some]
 show Option.bind (H.tx[t]?) _ = _
 rw [ht.tx, Option.bind_some]
 show Option.bind (H.mp[m]?) _ = _
 rw [ht.mp, Option.bind_some, hz, zE (by rfl)]
 unfold zBF
 rw [zBV (by rw [List.length_nil]; show (0 + b.length) * _ ≤ _; omega)]
 rfl
theorem t_Weight {t m : Nat} {c : Int} {ms : List (Int × List UInt8)} (ht : TS H t j c m ms) : zBZ (some t) H = some (ms.length : Int) := by
 unfold zBZ
 show Option.bind (H.tx[t]?) _ = _
 rw [ht.tx, Option.bind_some]
 show Option.bind (H.mp[m]?) _ = _
 rw [ht.mp, Option.bind_some]
theorem zHa {n : Nat} {ms : List (Int × List UInt8)} {want : List zC} (hw : MW n ms want) (hn : n ≤ 1000) (x6 : yN) (H : Hp) (t : Nat) : ∀ (f z : Nat), z ≤ want.length → want.length - z < f →
  zAV (want.map (·.Home)) ms x6 H t f (want.take z) (z : Int) = zBJ x6 H t want
 | 0, z, _, h => by omega
 | f + 1, z, hz, hf => by
  have := hw.len
  unfold zAV
  by_cases hlt : z < want.length
  ·
   have hl2 : z < (want.map (·.Home)).length := by rw [List.length_map]; exact hlt
   rw [zE (qK (by rw [List.length_map]; omega)), qY hl2, Option.bind_some, List.getElem_map, hw.eq, mf_at want hw.srt _ (List.getElem_mem hlt), zBV (by show ((want.take z).length + 1) * 32 ≤ _; rw [List.length_take]; omega), Option.bind_some, yK (by omega)]
   have e : want.take z ++ [(zC.mk want[z].Home ((some want[z].Data).getD []))] = want.take (z + 1) := by
    rw [List.take_succ_eq_append_getElem hlt]
    rfl
   rw [e]
   exact zHa hw hn x6 H t f (z + 1) (by omega) (by omega)
  · rw [zD (zZ (by rw [List.length_map]; omega)), List.take_of_length_le (by omega)]
theorem t_Commit (h : LP H i j d l) (g : Dok d) (o : Lok d l) (ha : l.al d = 0) {t m n : Nat} {ms : List (Int × List UInt8)} {want : List zC} (ht : TS H t j l.com m ms) (hw : MW n ms want) (hn : n ≤ 1000) (hd : d.wait.length ≤ 400000) :
  ∃ H', qT (some t) H = some ((l.com_ d want).1, H') ∧ LP H' i j (l.com_ d want).2.1 (l.com_ d want).2.2 ∧ H'.tx[t]? = some ⟨some j, l.com, true, m⟩ ∧ FrQ H H' := by
 have hlen := hw.len
 have htl : t < H.tx.length := (List.getElem?_eq_some_iff.1 ht.tx).1
 have hQ := f_TCommit (some t) H
 have hS : LP (H.st_tx t ⟨some j, l.com, true, m⟩) i j d l := ⟨h.dsk.lg rfl rfl, h.lg⟩
 obtain ⟨H', e1, e2⟩ := zKT (ws := want) hS g o (by omega) hd
 have hf := (zIf (some j) want (H.st_tx t ⟨some j, l.com, true, m⟩)).h _ e1
 have key : qT (some t) H = some ((l.com_ d want).1, H') := by
  unfold qT
  rw [zJd h g ht.tx, if_neg (by simpa using ha), Option.bind_some]
  show Option.bind (H.tx[t]?) _ = _
  rw [ht.tx, Option.bind_some]
  show Option.bind (H.mp[m]?) _ = _
  rw [ht.mp, Option.bind_some, hw.keysI hn, Option.bind_some]
  have := zHa hw hn ⟨some j, l.com, false, m⟩ H t ((want.map (·.Home)).length + 1) 0 (Nat.zero_le _) (by rw [List.length_map]; omega)
  rw [List.take_zero] at this
  refine Eq.trans this ?_
  unfold zBJ
  show Option.bind (qJ (some j) want (H.st_tx t ⟨some j, l.com, true, m⟩)) _ = _
  rw [e1, Option.bind_some]
 refine ⟨H', key, e2, ?_, hQ.h _ key⟩
 rw [hf.tx]
 show (H.tx.set t _)[t]? = _
 rw [List.getElem?_set_self htl]
theorem tog_l2 {ws : List zC} (hwl : ws.length ≤ 100) (g : Dok d) (o : Lok d l) (ha : l.al d = 0) (hd : d.wait.length ≤ 400000) {t m : Nat} (c : Int × Hp) : ∀ (n z : Nat) (H : Hp) (ms : List (Int × List UInt8)) (want : List zC), LP H i j d l → LR H k q d l → TS H t j l.com m ms → MW z ms want → z ≤ ws.length → ws.length - z < n →
  ∃ H' want', zAo ws (some t, c) q n want (z : Int) H = some (true, H') ∧ LP H' i j (l.com_ d want').2.1 (l.com_ d want').2.2 ∧ LR H' k q (l.com_ d want').2.1 (l.com_ d want').2.2 ∧ want'.length ≤ ws.length ∧ H'.lo = H.lo
 | 0, z, _, _, _, _, _, _, _, _, h => by omega
 | n + 1, z, H, ms, want, hp, hr, ht, hm, hz, hn => by
  have hsl := o.sl
  have hn1 := g.n1
  have hlen := hm.len
  unfold zAo
  by_cases hlt : z < ws.length
  ·
   rw [zE (qK (by omega)), qY hlt, Option.bind_some]
   show ∃ H' want', Option.bind (zBw (some t) ws[z].Home ws[z].Data H) _ = _ ∧ _
   rw [t_Write hp g o ha ht, Option.bind_some]
   have ih := fun (H1 : Hp) ms1 want1 h1 h2 (h3 : TS H1 t j l.com m ms1) h4 => tog_l2 hwl g o ha hd (t := t) (m := m) c n (z + 1) H1 ms1 want1 h1 h2 h3 h4 (by omega) (by omega)
   have ew : wi ((z : Int) + 1) = ((z + 1 : Nat) : Int) := yK (by omega)
   by_cases hneg : ws[z].Home < 0
   ·
    rw [if_pos (.inl hneg), zE (qK hneg)]
    unfold zAk
    rw [zE rfl, zD (zBH rfl), ew]
    exact ih H ms want hp hr ht (hm.le (by omega))
   rw [zD (zZ hneg)]
   by_cases hbig : ((d.now.length - 2 - l.s : Nat) : Int) ≤ ws[z].Home
   ·
    rw [if_pos (.inr hbig)]
    show ∃ H' want', Option.bind (yT (some q) H) _ = _ ∧ _
    rw [zFd hr g o, Option.bind_some, qK (show ws[z].Home ≥ _ from hbig)]
    unfold zAk
    rw [zE rfl, zD (zBH rfl), ew]
    exact ih H ms want hp hr ht (hm.le (by omega))
   rw [if_neg (by omega)]
   by_cases h64 : ws[z].Data.length = 64
   case neg =>
    rw [if_pos h64]
    show ∃ H' want', Option.bind (yT (some q) H) _ = _ ∧ _
    rw [zFd hr g o, Option.bind_some, zZ (show ¬ (ws[z].Home ≥ _) from hbig)]
    unfold zAk
    rw [zD rfl, zE (zDL (by omega)), zD (zBH rfl), ew]
    exact ih H ms want hp hr ht (hm.le (by omega))
   rw [if_neg (by simpa using h64)]
   have hml : m < H.mp.length := (List.getElem?_eq_some_iff.1 ht.mp).1
   have hp2 := hp.mp m (mset ms ws[z].Home ws[z].Data)
   have hr2 := hr.mp m (mset ms ws[z].Home ws[z].Data)
   have ht2 : TS (H.st_mp m (mset ms ws[z].Home ws[z].Data)) t j l.com m (mset ms ws[z].Home ws[z].Data) := ⟨ht.tx, List.getElem?_set_self hml⟩
   show ∃ H' want', Option.bind (yT (some q) (H.st_mp m (mset ms ws[z].Home ws[z].Data))) _ = _ ∧ _
   rw [zFd hr2 g o, Option.bind_some, zZ (show ¬ (ws[z].Home ≥ _) from hbig)]
   unfold zAk
   rw [zD rfl, zD (zBH (by omega))]
   show ∃ H' want', Option.bind (zCp (some t) ws[z].Home (H.st_mp m (mset ms ws[z].Home ws[z].Data))) _ = _ ∧ _
   rw [t_Read hp2 g ha ht2 h64 (by rw [mf_ms, if_pos rfl]), Option.bind_some, zD (zBH rfl), zD (zBH rfl)]
   show ∃ H' want', Option.bind (zAe ws[z].Data ws[z].Data) _ = _ ∧ _
   rw [zDe _ _ (by omega), Option.bind_some, beq_self_eq_true, zD (c := !true) rfl, nn_put _ _ (by omega), Option.bind_some, ew]
   obtain ⟨H', w', e1, e2, e3, e4, e5⟩ := ih _ _ _ hp2 hr2 ht2 (hm.put ws[z] (by omega) (by omega))
   exact ⟨H', w', e1, e2, e3, e4, e5⟩
  ·
   rw [zD (zZ (by omega))]
   unfold zDb
   show ∃ H' want', Option.bind (zBZ (some t) H) _ = _ ∧ _
   rw [t_Weight ht, Option.bind_some, hm.wlen, zE (zDB rfl)]
   obtain ⟨H1, a1, a2, a3, a4⟩ := t_Commit hp g o ha ht hm (by omega) hd
   show ∃ H' want', Option.bind (qT (some t) H) _ = _ ∧ _
   rw [a1, Option.bind_some]
   obtain ⟨H2, b1, b2, b3⟩ := zJ6 (ws := want) (hr.fr a4) g o (by omega) hd
   show ∃ H' want', Option.bind (yV (some q) want H1) _ = _ ∧ _
   rw [b1, Option.bind_some, zE (zDB rfl)]
   obtain ⟨x, c1, c2⟩ := t_over (a2.fr b3) (com_ok g o want).1 (t := t) (c := l.com) (m := m) (by rw [b3.tx]; exact a3)
   show ∃ H' want', Option.bind (qT (some t) H2) _ = _ ∧ _
   rw [c1, Option.bind_some]
   refine ⟨H2, want, ?_, a2.fr b3, b2, by omega, b3.lo.trans a4.lo⟩
   show some (x != 0, H2) = _
   rw [zDL c2]
theorem zK2 {ws : List zC} (hwl : ws.length ≤ 100) (hp : LP H i j d l) (hr : LR H k q d l) (g : Dok d) (o : Lok d l) (hd : d.wait.length ≤ 400000) :
  ∃ H' d' l', zA8 (some j) (some q) ws H = some (true, H') ∧ LP H' i j d' l' ∧ LR H' k q d' l' ∧ Dok d' ∧ Lok d' l' ∧ d'.now.length = d.now.length ∧ d'.wait.length ≤ d.wait.length + 302 ∧ H'.lo = H.lo := by
 unfold zA8 zDE
 rw [zFR hp g, Option.bind_some]
 by_cases ha : l.al d = 0
 case neg =>
  rw [zE (zDL ha), Option.bind_some]
  show ∃ H' d' l', Option.bind (zAd (some q) H) _ = _ ∧ _
  rw [zFv hr, Option.bind_some, zD (zBH rfl), zE (zDL ha)]
  exact ⟨H, d, l, rfl, hp, hr, g, o, rfl, by omega, rfl⟩
 rw [zD (zBH ha)]
 show ∃ H' d' l', Option.bind (Option.bind (H.lg[j]?) _) _ = _ ∧ _
 rw [hp.lg, Option.bind_some, Option.bind_some]
 have hp2 : LP ((H.nw_mp []).nw_tx ⟨some j, l.com, false, H.ln_mp⟩) i j d l := ⟨hp.dsk.lg rfl rfl, hp.lg⟩
 have hr2 : LR ((H.nw_mp []).nw_tx ⟨some j, l.com, false, H.ln_mp⟩) k q d l := ⟨⟨hr.dsk.at_⟩, hr.lg⟩
 have ht2 : TS ((H.nw_mp []).nw_tx ⟨some j, l.com, false, H.ln_mp⟩) H.tx.length j l.com H.mp.length [] := ⟨by show (H.tx ++ [_])[H.tx.length]? = _; simp, by show (H.mp ++ [_])[H.mp.length]? = _; simp⟩
 show ∃ H' d' l', Option.bind (zAd (some q) ((H.nw_mp []).nw_tx ⟨some j, l.com, false, H.ln_mp⟩)) _ = _ ∧ _
 rw [zFv hr2, Option.bind_some, ha, zD (zBH rfl), zD (zBH rfl)]
 obtain ⟨H', w', e1, e2, e3, e4, e5⟩ := tog_l2 hwl g o ha hd (0, (H.nw_mp []).nw_tx ⟨some j, l.com, false, H.ln_mp⟩) (ws.length + 1) 0 _ [] [] hp2 hr2 ht2 .nil (Nat.zero_le _) (by omega)
 obtain ⟨c1, c2, c3, c4⟩ := com_ok g o w'
 exact ⟨H', _, _, e1, e2, e3, c1, c2, c3, by omega, e5⟩
theorem zIp (ws : List zC) (H : Hp) : ∃ H', zA8 none none ws H = some (true, H') ∧ H' = H := by
 refine ⟨H, ?_, rfl⟩
 unfold zA8 zDE
 rfl
end
end Go.Proofs.YtjomnccladjpgaaGreat

/-
 Plain: one thing is done to both logs.
-/
namespace Go.Proofs.YtjomnccladjpgaaGreat
open Go Go.RowKit
set_option linter.unusedVariables false
set_option linter.unusedSimpArgs false
structure S8 (H : Hp) (u i k : Nat) (d : Dsk) (o : Option (Nat × Nat × Lgs)) : Prop where
 lo : H.lo[u]? = some ⟨some i, o.map (·.1), some k, o.map (·.2.1)⟩
 p : DIn H i d
 r : RIn H k d
 g : Dok d
 o : ∀ x, o = some x → H.lg[x.1]? = some (x.2.2.P i) ∧ H.rl[x.2.1]? = some (x.2.2.R k) ∧ Lok d x.2.2
structure DoK (D : zAx) : Prop where
 w : D.W.length ≤ 10
 b : D.B.length ≤ 100
 n : D.N ≤ 9223372036854775807
section
variable {H : Hp} {u i k : Nat} {d : Dsk} {o : Option (Nat × Nat × Lgs)} {D : zAx}
def One (H : Hp) (u i k : Nat) (d : Dsk) (D : zAx) : Prop := ∃ H' d' o', zAF (some u) D H = some (true, H') ∧ S8 H' u i k d' o' ∧ d'.now.length = d.now.length ∧ d'.wait.length ≤ d.wait.length + 1000
theorem Dok.fuse (g : Dok d) {z : Int} (hz : z ≤ 9223372036854775807) : Dok { d with fuse := if z < 0 then -1 else z } :=
 ⟨g.len, g.wok, g.same, g.row, g.n0, g.n1, by show -1 ≤ ite _ _ _; split <;> omega, by show ite _ _ _ ≤ _; split <;> omega⟩
theorem one_1 (h : S8 H u i k d o) (hD : DoK D) (hw : d.wait.length ≤ 300000) (hk : D.Kind = 1) : One H u i k d D := by
 have := hD.w
 unfold One zAF
 rw [zE (zDB hk)]
 show ∃ H' d' o', Option.bind (H.lo[u]?) _ = _ ∧ _
 rw [h.lo, Option.bind_some]
 cases o with
 | none =>
  show ∃ H' d' o', Option.bind (qJ none D.W H) _ = _ ∧ _
  have e : qJ none D.W H = some (1, H) := by unfold qJ; rfl
  rw [e, Option.bind_some]
  show ∃ H' d' o', Option.bind (H.lo[u]?) _ = _ ∧ _
  rw [h.lo, Option.bind_some]
  exact ⟨H, d, none, rfl, h, rfl, by omega⟩
 | some x =>
  obtain ⟨j, q, l⟩ := x
  obtain ⟨h1, h2, h3⟩ := h.o _ rfl
  show ∃ H' d' o', Option.bind (qJ (some j) D.W H) _ = _ ∧ _
  obtain ⟨H1, a1, a2⟩ := zKT (ws := D.W) ⟨h.p, h1⟩ h.g h3 (by omega) (by omega)
  have a3 := (zIf (some j) D.W H).h _ a1
  rw [a1, Option.bind_some]
  show ∃ H' d' o', Option.bind (H1.lo[u]?) _ = _ ∧ _
  rw [a3.lo, h.lo, Option.bind_some]
  obtain ⟨H2, b1, b2, b3⟩ := zJ6 (ws := D.W) (LR.fr ⟨h.r, h2⟩ a3.q) h.g h3 (by omega) (by omega)
  show ∃ H' d' o', Option.bind (yV (some q) D.W H1) _ = _ ∧ _
  rw [b1, Option.bind_some]
  obtain ⟨c1, c2, c3, c4⟩ := com_ok h.g h3 D.W
  refine ⟨H2, _, some (j, q, (l.com_ d D.W).2.2), ?_, ⟨by rw [b3.lo, a3.lo]; exact h.lo, (a2.fr b3).dsk, b2.dsk, c1, fun x hx => ?_⟩, c3, by omega⟩
  ·
   show some ((l.com_ d D.W).1 == (l.com_ d D.W).1, H2) = _
   rw [zDB rfl]
  ·
   injection hx with hx
   subst hx
   exact ⟨(a2.fr b3).lg, b2.lg, c2⟩
theorem one_2 (h : S8 H u i k d o) (hD : DoK D) (hw : d.wait.length ≤ 300000) (hk : D.Kind = 2) : One H u i k d D := by
 unfold One zAF
 rw [zD (zBq (by omega)), zE (zDB hk)]
 show ∃ H' d' o', Option.bind (H.lo[u]?) _ = _ ∧ _
 rw [h.lo, Option.bind_some]
 cases o with
 | none =>
  show ∃ H' d' o', Option.bind (zU none H) _ = _ ∧ _
  have e : zU none H = some (1, H) := by unfold zU; rfl
  rw [e, Option.bind_some]
  show ∃ H' d' o', Option.bind (H.lo[u]?) _ = _ ∧ _
  rw [h.lo, Option.bind_some]
  exact ⟨H, d, none, rfl, h, rfl, by omega⟩
 | some x =>
  obtain ⟨j, q, l⟩ := x
  obtain ⟨h1, h2, h3⟩ := h.o _ rfl
  have hLP : LP H i j d l := ⟨h.p, h1⟩
  have hLR : LR H k q d l := ⟨h.r, h2⟩
  show ∃ H' d' o', Option.bind (zU (some j) H) _ = _ ∧ _
  by_cases ha : l.al d = 0
  ·
   obtain ⟨H1, a1, a2⟩ := zFA hLP h.g h3 ha (by omega)
   have a3 := (zEI (some j) H).h _ a1
   rw [a1, Option.bind_some]
   show ∃ H' d' o', Option.bind (H1.lo[u]?) _ = _ ∧ _
   rw [a3.lo, h.lo, Option.bind_some]
   obtain ⟨H2, b1, b2, b3⟩ := zFX (hLR.fr a3.q) h.g h3 ha (by omega)
   show ∃ H' d' o', Option.bind (qG (some q) H1) _ = _ ∧ _
   rw [b1, Option.bind_some]
   obtain ⟨c1, c2, c3, c4, c5, c6, c7⟩ := zI6 (l := l) h.g h3 ha
   refine ⟨H2, _, some (j, q, (l.chk d).2.2), ?_, ⟨by rw [b3.lo, a3.lo]; exact h.lo, (a2.fr b3).dsk, b2.dsk, c1, fun x hx => ?_⟩, c3, by omega⟩
   ·
    show some ((l.chk d).1 == (l.chk d).1, H2) = _
    rw [zDB rfl]
   ·
    injection hx with hx
    subst hx
    exact ⟨(a2.fr b3).lg, b2.lg, c2⟩
  ·
   have e1 : zU (some j) H = some (l.al d, H) := by
    unfold zU
    rw [zFR hLP h.g, Option.bind_some, zE (zDL ha)]
   have e2 : qG (some q) H = some (l.al d, H) := by
    unfold qG
    rw [zFv hLR, Option.bind_some, zE (zDL ha)]
   rw [e1, Option.bind_some]
   show ∃ H' d' o', Option.bind (H.lo[u]?) _ = _ ∧ _
   rw [h.lo, Option.bind_some]
   show ∃ H' d' o', Option.bind (qG (some q) H) _ = _ ∧ _
   rw [e2, Option.bind_some]
   refine ⟨H, d, some (j, q, l), ?_, h, rfl, by omega⟩
   show some (l.al d == l.al d, H) = _
   rw [zDB rfl]
theorem one_3 (h : S8 H u i k d o) (hD : DoK D) (hw : d.wait.length ≤ 300000) (hk : D.Kind = 3) : One H u i k d D := by
 unfold One zAF
 rw [zD (zBq (by omega)), zD (zBq (by omega)), zE (zDB hk)]
 show ∃ H' d' o', Option.bind (H.lo[u]?) _ = _ ∧ _
 rw [h.lo, Option.bind_some]
 obtain ⟨H1, a1, a2, a3, a4⟩ := p_Fuse h.p h.g D.N
 show ∃ H' d' o', Option.bind (zAG (some i) D.N H) _ = _ ∧ _
 rw [a1, Option.bind_some]
 show ∃ H' d' o', Option.bind (H1.lo[u]?) _ = _ ∧ _
 rw [a4.lo, h.lo, Option.bind_some]
 obtain ⟨H2, b1, b2, b3, b4⟩ := r_Fused (h.r.fr a4.q) D.N
 show ∃ H' d' o', Option.bind (zA2 (some k) D.N H1) _ = _ ∧ _
 rw [b1, Option.bind_some]
 refine ⟨H2, _, o, rfl, ⟨by rw [b4.lo, a4.lo]; exact h.lo, a2.fr b4, b2, h.g.fuse hD.n, fun x hx => ?_⟩, rfl, by show d.wait.length ≤ _; omega⟩
 obtain ⟨h1, h2, h3⟩ := h.o x hx
 exact ⟨by rw [b4.lg, a3]; exact h1, by rw [b3, a4.rl]; exact h2, h3.len rfl⟩
theorem one_5 (h : S8 H u i k d o) (hD : DoK D) (hw : d.wait.length ≤ 300000) (hk : D.Kind = 5) : One H u i k d D := by
 unfold One zAF
 rw [zD (zBq (by omega)), zD (zBq (by omega)), zD (zBq (by omega)), zD (zBq (by omega)), zE (zDB hk)]
 show ∃ H' d' o', Option.bind (H.lo[u]?) _ = _ ∧ _
 rw [h.lo, Option.bind_some]
 cases o with
 | none =>
  show ∃ H' d' o', Option.bind (yW none D.N H) _ = _ ∧ _
  have e : yW none D.N H = some ([], 1) := by unfold yW; rfl
  rw [e, Option.bind_some]
  exact ⟨H, d, none, rfl, h, rfl, by omega⟩
 | some x =>
  obtain ⟨j, q, l⟩ := x
  obtain ⟨h1, h2, h3⟩ := h.o _ rfl
  have hLP : LP H i j d l := ⟨h.p, h1⟩
  have hLR : LR H k q d l := ⟨h.r, h2⟩
  show ∃ H' d' o', Option.bind (yW (some j) D.N H) _ = _ ∧ _
  rw [p_LRead hLP h.g h3, Option.bind_some]
  show ∃ H' d' o', Option.bind (zCs (some q) D.N H) _ = _ ∧ _
  rw [r_LRead hLR h.g h3 (by omega), Option.bind_some, zE (zDB rfl)]
  have hl : (l.rdA d D.N).1.length < 4611686018427387904 := by
   unfold Lgs.rdA
   split
   · decide
   ·
    split
    · decide
    ·
     show (d.now.getD _ []).length < _
     rw [List.getD_eq_getElem?_getD]
     cases hx : d.now[2 + l.s + D.N.toNat]? with
     | none => decide
     | some r =>
      have := h.g.nrow r (List.mem_of_getElem? hx)
      show r.length < _
      omega
  show ∃ H' d' o', Option.bind (zAe (l.rdA d D.N).1 (l.rdA d D.N).1) _ = _ ∧ _
  rw [zDe _ _ hl, Option.bind_some, beq_self_eq_true]
  exact ⟨H, d, some (j, q, l), rfl, h, rfl, by omega⟩
theorem one_6 (h : S8 H u i k d o) (hD : DoK D) (hw : d.wait.length ≤ 300000) (hk : D.Kind = 6) : One H u i k d D := by
 have := hD.w
 unfold One zAF
 rw [zD (zBq (by omega)), zD (zBq (by omega)), zD (zBq (by omega)), zD (zBq (by omega)), zD (zBq (by omega)), zE (zDB hk)]
 show ∃ H' d' o', Option.bind (H.lo[u]?) _ = _ ∧ _
 rw [h.lo, Option.bind_some]
 cases o with
 | none =>
  show ∃ H' d' o', Option.bind (zA8 none none D.W H) _ = _ ∧ _
  obtain ⟨H', e, rfl⟩ := zIp D.W H
  rw [e, Option.bind_some]
  exact ⟨H', d, none, rfl, h, rfl, by omega⟩
 | some x =>
  obtain ⟨j, q, l⟩ := x
  obtain ⟨h1, h2, h3⟩ := h.o _ rfl
  show ∃ H' d' o', Option.bind (zA8 (some j) (some q) D.W H) _ = _ ∧ _
  obtain ⟨H', d', l', e1, e2, e3, e4, e5, e6, e7, e8⟩ := zK2 (ws := D.W) (by omega) ⟨h.p, h1⟩ ⟨h.r, h2⟩ h.g h3 (by omega)
  rw [e1, Option.bind_some]
  refine ⟨H', d', some (j, q, l'), rfl, ⟨by rw [e8]; exact h.lo, e2.dsk, e3.dsk, e4, fun x hx => ?_⟩, e6, by omega⟩
  injection hx with hx
  subst hx
  exact ⟨e2.lg, e3.lg, e5⟩
theorem one_4 (h : S8 H u i k d o) (hD : DoK D) (hw : d.wait.length ≤ 300000) (hk : D.Kind = 4) : One H u i k d D := by
 have := hD.b
 unfold One zAF
 rw [zD (zBq (by omega)), zD (zBq (by omega)), zD (zBq (by omega)), zE (zDB hk)]
 show ∃ H' d' o', Option.bind (H.lo[u]?) _ = _ ∧ _
 rw [h.lo, Option.bind_some]
 obtain ⟨H1, a1, a2, a3, a4⟩ := p_Crash h.p h.g (by omega) D.B
 show ∃ H' d' o', Option.bind (zAZ (some i) D.B H) _ = _ ∧ _
 rw [a1, Option.bind_some]
 show ∃ H' d' o', Option.bind (H1.lo[u]?) _ = _ ∧ _
 rw [a4.lo, h.lo, Option.bind_some]
 obtain ⟨H2, b1, b2, b3, b4⟩ := r_Crash (h.r.fr a4.q) h.g (by omega) D.B (by omega)
 show ∃ H' d' o', Option.bind (zCC (some k) D.B H1) _ = _ ∧ _
 rw [b1, Option.bind_some]
 show ∃ H' d' o', Option.bind (H2.lo[u]?) _ = _ ∧ _
 have lo2 : H2.lo[u]? = H.lo[u]? := by rw [b4.lo, a4.lo]
 rw [lo2, h.lo, Option.bind_some]
 have gc := h.g.cr D.B
 obtain ⟨H3, c1, c2, c3, c4⟩ := p_Fuse (a2.fr b4) gc D.N
 show ∃ H' d' o', Option.bind (zAG (some i) D.N H2) _ = _ ∧ _
 rw [c1, Option.bind_some]
 show ∃ H' d' o', Option.bind (H3.lo[u]?) _ = _ ∧ _
 rw [c4.lo, lo2, h.lo, Option.bind_some]
 obtain ⟨H4, e1, e2, e3, e4⟩ := r_Fused (b2.fr c4.q) D.N
 show ∃ H' d' o', Option.bind (zA2 (some k) D.N H3) _ = _ ∧ _
 rw [e1, Option.bind_some]
 show ∃ H' d' o', Option.bind (H4.lo[u]?) _ = _ ∧ _
 have lo4 : H4.lo[u]? = H.lo[u]? := by rw [e4.lo, c4.lo, lo2]
 rw [lo4, h.lo, Option.bind_some]
 have gf := gc.fuse hD.n
 have hp4 := c2.fr e4
 have hlen : (d.cr D.B).now.length = d.now.length := by show (tear d.kept d.wait D.B).length = _; rw [zG7]; exact h.g.len
 generalize hd4 : ({ d.cr D.B with fuse := if D.N < 0 then -1 else D.N } : Dsk) = d4 at *
 have hlen4 : d4.now.length = d.now.length := by rw [← hd4]; exact hlen
 have hw4 : d4.wait.length = 0 := by rw [← hd4]; rfl
 obtain ⟨_, _, _, ⟨H5, f1, _, _⟩, _⟩ := zIx hp4 e2 gf (by omega)
 have f4 := (f_Open (some i) H4).h _ f1
 obtain ⟨ws, w1, w2, ⟨H5', f1', f2, f3⟩, H6, g1, g2, g3, g4⟩ := zIx hp4 (e2.fr f4.q) gf (by omega)
 have e5 : H5' = H5 := congrArg (·.2.2) (Option.some.inj (f1'.symm.trans f1))
 subst e5
 obtain ⟨k1, k2, k3, k4⟩ := opS_ok gf w1
 show ∃ H' d' o', Option.bind (zBs (some i) H4) _ = _ ∧ _
 rw [f1', Option.bind_some]
 have lo5 : H5'.lo[u]? = H.lo[u]? := by rw [show H5'.lo = H4.lo from f4.lo]; exact lo4
 show ∃ H' d' o', Option.bind (H5'.lo[u]?) _ = _ ∧ _
 rw [lo5, h.lo, Option.bind_some]
 show ∃ H' d' o', Option.bind (zC9 (some k) H5') _ = _ ∧ _
 rw [g1, Option.bind_some]
 have lo6 : H6.lo[u]? = H.lo[u]? := by rw [g4.lo]; exact lo5
 have hul : u < H6.lo.length := (List.getElem?_eq_some_iff.1 (lo6.trans h.lo)).1
 have hp6 : DIn H6 i (d4.opS ws).2.1 := f2.fr g4
 generalize hoo : (d4.opS ws).2.2 = oo at *
 generalize (d4.opS ws).1 = ee at *
 generalize (d4.opS ws).2.1 = d6 at *
 have fin : ∀ (o' : Option (Nat × Nat × Lgs)) (x : qC), (∀ x, o' = some x → H6.lg[x.1]? = some (x.2.2.P i) ∧ H6.rl[x.2.1]? = some (x.2.2.R k) ∧ Lok d6 x.2.2) → S8 ((H6.st_lo u x).st_lo u ⟨some i, o'.map (·.1), some k, o'.map (·.2.1)⟩) u i k d6 o' := by
  intro o' x hx
  refine ⟨?_, hp6.lg rfl rfl, ⟨g2.at_⟩, k1, hx⟩
  show ((H6.lo.set u _).set u _)[u]? = _
  rw [List.getElem?_set_self (by rw [List.length_set]; exact hul)]
 cases oo with
 | none =>
  show ∃ H' d' o', Option.bind (H6.lo[u]?) _ = _ ∧ _
  rw [lo6, h.lo, Option.bind_some, zE (zDB rfl)]
  exact ⟨_, d6, none, rfl, fin none _ (fun x hx => by cases hx), by omega, by omega⟩
 | some l' =>
  show ∃ H' d' o', Option.bind (H6.lo[u]?) _ = _ ∧ _
  rw [lo6, h.lo, Option.bind_some, zE (zDB rfl)]
  refine ⟨_, d6, some (H4.lg.length, H5'.rl.length, l'), rfl, fin (some (H4.lg.length, H5'.rl.length, l')) _ (fun x hx => ?_), by omega, by omega⟩
  injection hx with hx
  subst hx
  exact ⟨by rw [g4.lg]; exact f3 l' rfl, g3 l' rfl, (k4 l' rfl).1⟩
theorem one_ok (h : S8 H u i k d o) (hD : DoK D) (hw : d.wait.length ≤ 300000) : One H u i k d D := by
 by_cases h1 : D.Kind = 1; · exact one_1 h hD hw h1
 by_cases h2 : D.Kind = 2; · exact one_2 h hD hw h2
 by_cases h3 : D.Kind = 3; · exact one_3 h hD hw h3
 by_cases h4 : D.Kind = 4; · exact one_4 h hD hw h4
 by_cases h5 : D.Kind = 5; · exact one_5 h hD hw h5
 by_cases h6 : D.Kind = 6; · exact one_6 h hD hw h6
 unfold One zAF
 rw [zD (zBq h1), zD (zBq h2), zD (zBq h3), zD (zBq h4), zD (zBq h5), zD (zBq h6)]
 exact ⟨H, d, o, rfl, h, rfl, by omega⟩
end
end Go.Proofs.YtjomnccladjpgaaGreat

/-
 Plain: the law's own checks, and all of it.
-/
namespace Go.Proofs.YtjomnccladjpgaaGreat
open Go Go.RowKit
set_option linter.unusedVariables false
set_option linter.unusedSimpArgs false
theorem n_FewAll (p : List zAx) (hl : p.length ≤ 9223372036854775807) : ∃ r, zHG p = some r ∧ (r = true → p.length ≤ 30 ∧ ∀ D ∈ p, D.W.length ≤ 10 ∧ D.B.length ≤ 100) := by
 have key : ∀ (n z : Nat), z ≤ p.length → p.length - z < n → ∃ r, zDk p n (z : Int) = some r ∧ (r = true → p.length ≤ 30 ∧ ∀ D ∈ p.drop z, D.W.length ≤ 10 ∧ D.B.length ≤ 100) := by
  intro n
  induction n with
  | zero => intro z _ h; omega
  | succ n ih =>
   intro z hz hn
   unfold zDk
   by_cases hlt : z < p.length
   ·
    rw [zE (qK (by omega)), qY hlt, Option.bind_some]
    by_cases hb : p[z].B.length ≤ 100
    case neg => rw [zE (qK (by omega))]; exact ⟨false, rfl, fun h => by cases h⟩
    rw [zD (zZ (by omega))]
    obtain ⟨r, e1, e2⟩ := n_Few p[z].W
    rw [e1, Option.bind_some]
    cases r with
    | false => exact ⟨false, rfl, fun h => by cases h⟩
    | true =>
     obtain ⟨r, k1, k2⟩ := ih (z + 1) (by omega) (by omega)
     rw [zD (c := !true) rfl, yK (by omega)]
     refine ⟨r, k1, fun h => ⟨(k2 h).1, fun D hD => ?_⟩⟩
     rw [List.drop_eq_getElem_cons hlt] at hD
     rcases List.mem_cons.1 hD with rfl | hD
     · exact ⟨e2 rfl, hb⟩
     · exact (k2 h).2 D hD
   ·
    rw [zD (zZ (by omega)), List.drop_eq_nil_of_le (by omega)]
    unfold zFJ
    exact ⟨_, rfl, fun h => ⟨by have := of_decide_eq_true h; omega, fun D hD => absurd hD List.not_mem_nil⟩⟩
 obtain ⟨r, e1, e2⟩ := key (p.length + 1) 0 (Nat.zero_le _) (by omega)
 rw [List.drop_zero] at e2
 exact ⟨r, e1, e2⟩
section
variable {H : Hp} {u i k : Nat} {d : Dsk} {o : Option (Nat × Nat × Lgs)}
theorem ww_j3 (h : S8 H u i k d o) : zCO i H k = some (true, H) := by
 unfold zCO
 have e : zB9 (some i) H = some (d.wait.length : Int) := by
  unfold zB9
  rw [n_is h.p h.g.n0, Option.bind_some, zD (c := !true) rfl]
  obtain ⟨⟨a, b, ks, ns, hab, hd, _⟩, _⟩ := h.p
  show Option.bind (H.dk[i]?) _ = _
  rw [hd, Option.bind_some]
 obtain ⟨a, h1, h2⟩ := h.r.at_
 rw [e, Option.bind_some]
 show Option.bind (H.rd[k]?) _ = _
 rw [h1, Option.bind_some]
 show some ((d.wait.length : Int) == ((d.wait.map rW).length : Int), H) = _
 rw [List.length_map, zDB rfl]
theorem rdA_len (g : Dok d) (z : Int) : (d.rdA z).1.length < 4611686018427387904 := by
 unfold Dsk.rdA
 split
 · decide
 ·
  split
  · decide
  ·
   show (d.now.getD _ []).length < _
   rw [List.getD_eq_getElem?_getD]
   cases hx : d.now[z.toNat]? with
   | none => decide
   | some r =>
    have := g.nrow r (List.mem_of_getElem? hx)
    show r.length < _
    omega
theorem ww_l4 (h : S8 H u i k d o) (hw : d.wait.length ≤ 300000) (p0 : UInt8) {m : Nat} (hm : m ≤ 100) (hp : wi ((wi (Int.tmod (p0.toNat : Int) 60)) + 1) = (m : Int)) : ∀ (n z : Nat), z ≤ m → m - z < n → zBd p0 i H k n (z : Int) = some (true, H)
 | 0, z, _, h => by omega
 | n + 1, z, hz, hn => by
  unfold zBd
  rw [hp]
  by_cases hlt : z < m
  ·
   rw [zE (qK (by omega)), p_Read h.p h.g, Option.bind_some, zKh h.r h.g (by omega), Option.bind_some, zD (zBH rfl), zDe _ _ (rdA_len h.g _), Option.bind_some, beq_self_eq_true, zD (c := !true) rfl, yK (by omega)]
   exact ww_l4 h hw p0 hm hp n (z + 1) (by omega) (by omega)
  ·
   rw [zD (zZ (by omega))]
   exact ww_j3 h
theorem ww_j1 (h : S8 H u i k d o) (hw : d.wait.length ≤ 300000) (p0 : UInt8) {m : Nat} (hm : m ≤ 100) (hp : wi ((wi (Int.tmod (p0.toNat : Int) 60)) + 1) = (m : Int)) {x : Int × Hp} (hx : x.2.ln_lo = u) : zCQ x p0 i k H = some (true, H) := by
 have e2 : zBg p0 i H k = some (true, H) := by
  unfold zBg
  rw [hp]
  exact ww_l4 h hw p0 hm hp _ 0 (Nat.zero_le _) (by omega)
 unfold zCQ
 rw [hx]
 show Option.bind (H.lo[u]?) _ = _
 rw [h.lo, Option.bind_some]
 cases o with
 | none => exact e2
 | some x =>
  obtain ⟨j, q, l⟩ := x
  obtain ⟨h1, h2, h3⟩ := h.o _ rfl
  have h3 : Lok d l := h3
  have hLP : LP H i j d l := ⟨h.p, h1⟩
  have hLR : LR H k q d l := ⟨h.r, h2⟩
  have := h3.us
  have := h3.sl
  have := h.g.n1
  have b1 : zCG (some j) H = some (l.base : Int) := by
   unfold zCG
   show Option.bind (H.lg[j]?) _ = _
   rw [hLP.lg]
   rfl
  have b2 : zB1 (some j) H = some l.com := by
   unfold zB1
   show Option.bind (H.lg[j]?) _ = _
   rw [hLP.lg]
   rfl
  show Option.bind (zCG (some j) H) _ = _
  rw [b1, Option.bind_some]
  show Option.bind (H.rl[q]?) _ = _
  rw [hLR.lg, Option.bind_some]
  show (bif ((l.base : Int) != (l.base : Int)) then _ else Option.bind (zBo (some j) H) _) = _
  rw [zD (zBH rfl), p_Left hLP h3 h.g, Option.bind_some]
  show (bif (((l.s - l.used : Nat) : Int) != wi ((l.s : Int) - (l.used : Int))) then _ else Option.bind (qP (some j) H) _) = _
  rw [zD (zBH (by rw [yB (by omega) (by omega)]; omega)), zKH hLP h.g h3, Option.bind_some]
  show Option.bind (yT (some q) H) _ = _
  rw [zFd hLR h.g h3, Option.bind_some, zD (zBH rfl)]
  show Option.bind (zB1 (some j) H) _ = _
  rw [b2, Option.bind_some]
  show (bif (l.com != l.com) then _ else _) = _
  rw [zD (zBH rfl)]
  exact e2
theorem ww_grow {a b z : Nat} (h : a ≤ b + 1000) (k : b ≤ (z + 2) * 1000) : a ≤ (z + 3) * 1000 := by omega
theorem ww_l5 {p : List zAx} (hp : ∀ D ∈ p, DoK D) (hl : p.length ≤ 30) (p0 : UInt8) {m : Nat} (hm : m ≤ 100) (hp0 : wi ((wi (Int.tmod (p0.toNat : Int) 60)) + 1) = (m : Int)) {x : Int × Hp} (hx : x.2.ln_lo = u) : ∀ (n z : Nat) (H : Hp) (d : Dsk) (o : Option (Nat × Nat × Lgs)), S8 H u i k d o → d.wait.length ≤ (z + 2) * 1000 → z ≤ p.length → p.length - z < n →
  ∃ H', zAy p x p0 i k n (z : Int) H = some (true, H')
 | 0, z, _, _, _, _, _, _, h => by omega
 | n + 1, z, H, d, o, h, hw, hz, hn => by
  unfold zAy
  by_cases hlt : z < p.length
  ·
   rw [zE (qK (by omega)), qY hlt, Option.bind_some, hx]
   obtain ⟨H', d', o', e1, e2, e3, e4⟩ := one_ok h (hp _ (List.getElem_mem hlt)) (by omega)
   rw [e1, Option.bind_some]
   rw [zD (c := !(true, H').1) rfl, yK (by omega)]
   show ∃ K, zAy p x p0 i k n ((z + 1 : Nat) : Int) H' = some (true, K)
   have hw2 : d'.wait.length ≤ (z + 3) * 1000 := ww_grow e4 hw
   exact ww_l5 hp hl p0 hm hp0 hx n (z + 1) H' d' o' e2 hw2 (by omega) (by omega)
  ·
   rw [zD (zZ (by omega))]
   exact ⟨H, ww_j1 h (by omega) p0 hm hp0 hx⟩
end
theorem zJZ (p0 : UInt8) (p1 : Int) (p2 : List zAx) (hl : p2.length ≤ 9223372036854775807) (hN : ∀ D ∈ p2, D.N ≤ 9223372036854775807) : ∃ w', zD6 p0 p1 p2 Hp.e = some (true, w') := by
 obtain ⟨m, hm0, hm1, hm2⟩ : ∃ m : Nat, 1 ≤ m ∧ m ≤ 100 ∧ wi ((wi (Int.tmod (p0.toNat : Int) 60)) + 1) = (m : Int) := by
  refine ⟨p0.toNat % 60 + 1, by omega, by omega, ?_⟩
  have e : Int.tmod (p0.toNat : Int) 60 = ((p0.toNat % 60 : Nat) : Int) := by
   rw [Int.tmod_eq_emod_of_nonneg (by omega)]
   omega
  rw [e, yB (z := ((p0.toNat % 60 : Nat) : Int)) (by omega) (by omega), yB (by omega) (by omega)]
  omega
 unfold zD6
 obtain ⟨w1, e1⟩ := n_awake
 rw [e1, Option.bind_some]
 show ∃ w', (bif !true then _ else Option.bind (zCl _ w1) _) = _
 rw [zD (c := !true) rfl, hm2]
 obtain ⟨H1, a1, a2, a3, a4⟩ := p_New (H := w1) hm0 hm1
 rw [a1, Option.bind_some]
 obtain ⟨H2, b1, b2, b3, b4⟩ := r_New (H := H1) hm0 hm1
 show ∃ w', Option.bind (zFF (m : Int) H1) _ = _
 rw [b1, Option.bind_some]
 have g := newD_ok hm0 hm1
 obtain ⟨H3, c1, c2⟩ := p_Format (a2.fr b3) g (by show (-1 : Int) < 0; omega) rfl (by show 0 ≤ 1000; omega) p1
 have c3 := (f_Format (some w1.dk.length) p1 H2).h _ c1
 show ∃ w', Option.bind (zAh (some w1.dk.length) p1 H2) _ = _
 rw [c1, Option.bind_some]
 obtain ⟨H4, f1, f2, f3, f4⟩ := r_Format (b2.fr c3.q) g (by show (-1 : Int) < 0; omega) rfl (by show 0 ≤ 1000; omega) p1
 show ∃ w', Option.bind (zDi (some H1.rd.length) p1 H3) _ = _
 rw [f1, Option.bind_some, zD (zBH rfl)]
 have en : zAh none p1 H4 = some (1, H4) := by
  unfold zAh
  rfl
 show ∃ w', Option.bind (zAh none p1 H4) _ = _
 rw [en, Option.bind_some, zD (zBH rfl)]
 obtain ⟨r, h1, h2⟩ := n_FewAll p2 hl
 rw [h1, Option.bind_some]
 cases r with
 | false => exact ⟨_, rfl⟩
 | true =>
  obtain ⟨k1, k2⟩ := h2 rfl
  rw [zD (c := !true) rfl]
  have hlen : (newD m).now.length = m := List.length_replicate
  obtain ⟨d, hd, gd, wd⟩ : ∃ d, d = (if 3 ≤ p1 ∧ p1 + 3 ≤ ((newD m).now.length : Int) then (newD m).fm p1.toNat else newD m) ∧ Dok d ∧ d.wait.length ≤ 200 := by
   refine ⟨_, rfl, ?_⟩
   by_cases hc : 3 ≤ p1 ∧ p1 + 3 ≤ ((newD m).now.length : Int)
   ·
    rw [if_pos hc]
    obtain ⟨q1, q2, q3, q4⟩ := fm_ok g (by show (-1 : Int) < 0; omega) rfl (s := p1.toNat) (by omega)
    exact ⟨q1, by have : (newD m).wait.length = 0 := rfl; omega⟩
   ·
    rw [if_neg hc]
    exact ⟨g, by show 0 ≤ 200; omega⟩
  rw [← hd] at c2 f2
  have s0 : S8 (H4.nw_lo ⟨some w1.dk.length, none, some H1.rd.length, none⟩) H4.lo.length w1.dk.length H1.rd.length d none := by
   refine ⟨?_, DIn.lg (c2.fr f4) rfl rfl, ⟨f2.at_⟩, gd, fun x hx => by cases hx⟩
   show (H4.lo ++ [_])[H4.lo.length]? = _
   simp
  obtain ⟨H5, d5, o5, e5, s5, n5, w5⟩ := one_ok s0 (D := ⟨4, -1, [], []⟩) ⟨by show 0 ≤ 10; omega, by show 0 ≤ 100; omega, by show (-1 : Int) ≤ _; omega⟩ (by omega)
  show ∃ w', Option.bind (zAF (some H4.lo.length) ⟨4, -1, [], []⟩ (H4.nw_lo ⟨some w1.dk.length, none, some H1.rd.length, none⟩)) _ = _
  rw [e5, Option.bind_some]
  rw [zD (c := !(true, H5).1) rfl]
  exact ww_l5 (fun D hD => ⟨(k2 D hD).1, (k2 D hD).2, hN D hD⟩) k1 p0 hm1 hm2 rfl _ 0 H5 d5 o5 s5 (by omega) (Nat.zero_le _) (by omega)
end Go.Proofs.YtjomnccladjpgaaGreat

/-
 The contract of the law: it starts with no heap, and returns true.
-/
namespace Go.Proofs.YtjomnccladjpgaaGreat
open Go Go.RowKit
set_option linter.unusedVariables false
theorem lawWW (p0 : UInt8) (p1 : Int) (p2 : List zAx) (hl : p2.length ≤ 9223372036854775807) (hN : ∀ D ∈ p2, D.N ≤ 9223372036854775807) : FC Tryz.prog 3 [.t (.d (.lit (.int .u8 (p0.toNat : Int)))), .t (.d (.lit (.int .i64 p1))), .t (.d (.seq 4 (List.map zBK p2)))] [] (.t (.d (.lit (.bool true)))) := by
 obtain ⟨w', h⟩ := zJZ p0 p1 p2 hl hN
 exact fc_of_h (zGX p0 p1 p2 Hp.e (true, w') h) (fun c => hpA_e c) rfl (by show 3 ≤ OB; decide)
end Go.Proofs.YtjomnccladjpgaaGreat

/-
 What came in: from the reading of the arguments to data.
-/
namespace Go.Proofs.YtjomnccladjpgaaGreat
open Go Go.RowKit Go.ChangeShapes Go.WideShapes Go.ChangeAt
set_option linter.unusedVariables false
set_option maxRecDepth 20000
def memW (w : World) : Mem := fun b p => w.cell? ⟨b, p, none⟩
theorem memW_sat (w : World) : ∀ b p u, memW w b p = some u → w.cell? ⟨b, p, none⟩ = some u := fun _ _ _ h => h
def OpT {H : Type} (enc : TypeId × Value → H) (w : World) {α : Type} (t : TypeId) (c : α → List D) (ok : α → Prop) : Prop :=
 ∀ (base : Nat) (spare : Nat → Bool) (held : Bool) (fuel : Nat) (cs : List Value) (x : DataW H × List MemPlace), DataW.trod enc Tryz.prog w base spare held fuel t cs = some x → ∃ v : α, RepL (memW w) (c v) cs ∧ ok v
def OpF {H : Type} (enc : TypeId × Value → H) (w : World) {α : Type} (m : Nat) (t : TypeId) (c : α → List D) (ok : α → Prop) : Prop :=
 ∀ (base : Nat) (spare : Nat → Bool) (held : Bool) (fuel : Nat) (cs : List Value) (x : DataW H × List MemPlace), fuel < m → DataW.trod enc Tryz.prog w base spare held fuel t cs = some x → ∃ v : α, RepL (memW w) (c v) cs ∧ ok v
theorem OpT.lt {H : Type} {enc : TypeId × Value → H} {w : World} {α : Type} {t : TypeId} {c : α → List D} {ok : α → Prop} (h : OpT enc w t c ok) (m : Nat) : OpF enc w m t c ok := fun b s l f cs x _ k => h b s l f cs x k
theorem OpT.of {H : Type} {enc : TypeId × Value → H} {w : World} {α : Type} {t : TypeId} {c : α → List D} {ok : α → Prop} (h : ∀ m, OpF enc w m t c ok) : OpT enc w t c ok := fun b s l f cs x k => h (f + 1) b s l f cs x (Nat.lt_succ_self f) k
def zKi (k : IntKind) (n : Int) : Prop := (Lit.int k n).wf = true
theorem okI64 {n : Int} (h : zKi .i64 n) : -9223372036854775808 ≤ n ∧ n ≤ 9223372036854775807 := by
 unfold zKi at h
 simp [Lit.wf, IntKind.min, IntKind.max, IntKind.signed, IntKind.bits] at h
 omega
def okAny {α : Type} (_ : α) : Prop := True
def zHx {α : Type} (ok : α → Prop) (l : List α) : Prop := l.length ≤ 9223372036854775807 ∧ ∀ x ∈ l, ok x
theorem zGD {m : Mem} {d : D} {u : Value} (h : RepD m d u) : RepL m [d] [u] := by
 refine ⟨rfl, fun j e hj => ?_⟩
 match j, hj with
 | 0, hj => injection hj with hj; subst hj; exact ⟨u, rfl, h⟩
 | j + 1, hj => simp at hj
theorem zEQ {m : Mem} {l1 l2 : List D} {cs : List Value} {o k : Nat} (h1 : RepL m l1 ((cs.drop o).take k)) (h2 : RepL m l2 (cs.drop (o + k))) : RepL m (l1 ++ l2) (cs.drop o) := by
 have e : cs.drop o = (cs.drop o).take k ++ cs.drop (o + k) := by rw [← List.drop_drop, List.take_append_drop]
 rw [e]
 refine ⟨by rw [List.length_append, List.length_append, h1.1, h2.1], fun j d hj => ?_⟩
 rcases Nat.lt_or_ge j l1.length with hl | hl
 ·
  rw [List.getElem?_append_left hl] at hj
  obtain ⟨u, a, b⟩ := h1.2 j d hj
  exact ⟨u, by rw [List.getElem?_append_left (by rw [h1.1]; exact hl)]; exact a, b⟩
 ·
  rw [List.getElem?_append_right hl] at hj
  obtain ⟨u, a, b⟩ := h2.2 _ d hj
  exact ⟨u, by rw [List.getElem?_append_right (by rw [h1.1]; exact hl), h1.1]; exact a, b⟩
theorem zKB {m : Mem} {cs : List Value} {n : Nat} (h : cs.length = n) : RepL m [] (cs.drop n) := by
 rw [List.drop_of_length_le (by omega)]
 exact ⟨rfl, fun j d hj => by simp at hj⟩
section
variable {H : Type} {enc : TypeId × Value → H} {w : World}
theorem op_int {t : TypeId} {k : IntKind} (ht : Tryz.prog.underlying t = some (.int k)) : OpT enc w t (cInt k) (zKi k) := fun b s l f cs x h => by
 obtain ⟨n, rfl, _, hw⟩ := DataW.trod_int ht h
 exact ⟨n, zGD (.lit _ rfl), hw⟩
theorem op_u8 {t : TypeId} (ht : Tryz.prog.underlying t = some (.int .u8)) : OpT enc w t cU8 okAny := fun b s l f cs x h => by
 obtain ⟨n, rfl, _, hw⟩ := DataW.trod_int ht h
 refine ⟨UInt8.ofNat n.toNat, zGD ?_, trivial⟩
 have hr : 0 ≤ n ∧ n ≤ 255 := by
  simp [Lit.wf, IntKind.min, IntKind.max, IntKind.signed, IntKind.bits] at hw
  omega
 have : ((UInt8.ofNat n.toNat).toNat : Int) = n := by
  simp
  omega
 rw [this]
 exact .lit _ rfl
theorem zJE {α : Type} (P : Nat → α → Prop) : ∀ n : Nat, (∀ i, i < n → ∃ x, P i x) → ∃ l : List α, l.length = n ∧ ∀ i (h : i < l.length), P i l[i]
 | 0, _ => ⟨[], rfl, fun i h => absurd h (by simp)⟩
 | n + 1, h => by
  obtain ⟨l, hl, hp⟩ := zJE P n fun i hi => h i (by omega)
  obtain ⟨x, hx⟩ := h n (by omega)
  refine ⟨l ++ [x], by simp [hl], fun i hi => ?_⟩
  by_cases h1 : i < l.length
  · rw [List.getElem_append_left h1]; exact hp i h1
  ·
   have : i = n := by simp at hi; omega
   subst this
   rw [List.getElem_append_right (by omega)]
   simpa [hl] using hx
theorem op_sliceF {α : Type} {t te : TypeId} {k m : Nat} {c : α → List D} {ok : α → Prop} (ht : Tryz.prog.underlying t = some (.slice te)) (hk : Tryz.prog.cellsOf te = k) (hk0 : 0 < k) (he : OpF enc w m te c ok) : OpF enc w (m + 1) t (cSl k c) (zHx ok) := fun b s l f cs x hf h => by
 rcases DataW.trod_slice ht h with ⟨rfl, _⟩ | ⟨a, len, cap, elems, rest, n, hn, rfl, _, hba, hlc, hcm, hel, hev, _⟩
 · exact ⟨[], zGD (RepD.nilSeq _ _), by simp, fun x hx => by cases hx⟩
 ·
  have get : ∀ i, i < len → ∃ v : α, (∃ cs' : List Value, cs'.length = k ∧ (∀ j u, cs'[j]? = some u → w.cell? ((a.add (i * k)).add j) = some u) ∧ RepL (memW w) (c v) cs') ∧ ok v := by
   intro i hi
   have h1 := hev i hi
   obtain ⟨y, hy⟩ : ∃ y, elems[i]? = some y := ⟨elems[i], List.getElem?_eq_getElem (by omega)⟩
   rw [hy, hk] at h1
   obtain ⟨cs', hcs', ht'⟩ := Option.bind_eq_some_iff.1 h1
   obtain ⟨hc1, hc2, hc3⟩ := World.cells?_some hcs'
   obtain ⟨v, hrep, hok⟩ := he _ _ _ n cs' y (by omega) ht'
   refine ⟨v, ⟨cs', hc2, fun j u hu => ?_, hrep⟩, hok⟩
   have hjl : j < cs'.length := (List.getElem?_eq_some_iff.1 hu).1
   have hg := hc3 j (by omega)
   rw [hg, ← hu]
  by_cases h0 : len = 0
  ·
   subst h0
   exact ⟨[], zGD (.seq k [] _ cap 0 0 (fun _ _ => undef) (by simp) hcm (fun h => absurd rfl h) (fun i r h => by simp at h) (fun i r j d h => by simp at h) (fun i r j d h => by simp at h)), by simp, fun x hx => by cases hx⟩
  ·
   have hs : a.spot = none := by
    obtain ⟨v, ⟨cs', hl4, hcell, _⟩, _⟩ := get 0 (by omega)
    have := World.cell?_spot (hcell 0 _ (List.getElem?_eq_getElem (by omega)))
    simpa [Addr.add] using this
   obtain ⟨g, o, sp⟩ := a
   simp only at hs
   subst hs
   obtain ⟨l, hll, hlp⟩ := zJE _ len get
   refine ⟨l, zGD ?_, by unfold maxLen at hcm; omega, fun x hx => ?_⟩
   ·
    have := RepD.seq (m := memW w) k (l.map c) (some ⟨g, o, none⟩) cap g o (fun i j => (memW w g (o + i * k + j)).getD undef) (by simp; omega) hcm (fun _ => rfl) (fun i r hi => ?_) (fun i r j d hi hj => ?_) (fun i r j d hi hj => ?_)
    · rwa [List.length_map, hll] at this
    all_goals
     rw [List.getElem?_map] at hi
     have hlt : i < l.length := by
      rcases Nat.lt_or_ge i l.length with g | g
      · exact g
      · rw [List.getElem?_eq_none g] at hi; cases hi
     rw [List.getElem?_eq_getElem hlt] at hi
     injection hi with hi
     subst hi
     obtain ⟨⟨cs', h1, h2, h3⟩, _⟩ := hlp i hlt
    ·
     have := h3.1
     omega
    all_goals
     obtain ⟨u, k1, k2⟩ := h3.2 j d hj
     have k3 := h2 j u k1
     rw [Addr.add_mid, Addr.add_mid] at k3
     have k4 : memW w g (o + i * k + j) = some u := k3
     rw [k4]
    · rfl
    · exact k2
   ·
    obtain ⟨i, hi, rfl⟩ := List.getElem_of_mem hx
    exact (hlp i hi).2
theorem zG9 {α : Type} {t te : TypeId} {k : Nat} {c : α → List D} {ok : α → Prop} (ht : Tryz.prog.underlying t = some (.slice te)) (hk : Tryz.prog.cellsOf te = k) (hk0 : 0 < k) (he : OpT enc w te c ok) : OpT enc w t (cSl k c) (zHx ok) :=
 fun b s l f cs x h => op_sliceF ht hk hk0 (he.lt f) b s l f cs x (Nat.lt_succ_self f) h
end
theorem fc_law {f : FuncId} {args : List A} (h : FC Tryz.prog f args [] (.t (.d (.lit (.bool true))))) {w : World} {vals : Array Value} (hs : vals.size = args.length) (hsat : ∀ b p u, memW w b p = some u → w.cell? ⟨b, p, none⟩ = some u) (hr : ∀ s, RepA (memW w) w (fun _ => none) (argS args) s (argS args s) (vals.getD s undef)) (htbl : Mle TBL (memW w) := by intro b p u h; simp [TBL, TBLS] at h) :
    Calls Tryz.prog f vals w fun e w' => e = .returned (.bool true) ∧ Below w.heap.size w w' := by
  refine (h w (memW w) (fun _ => none) vals hsat htbl (fun _ _ h => by cases h) (fun _ _ _ h => by cases h) hs hr).mono ?_
  rintro e w' ⟨u, m', o', S', a', ρ, rfl, J, hu, _⟩
  have hS : Same (fun _ => False) w w' := J.same.weaken fun g h => h rfl
  have hu : RepD m' (.lit (.bool true)) u := hu
  cases hu
  exact ⟨rfl, hS.below⟩
theorem u8_of {n : Int} (hw : (Lit.int .u8 n).wf = true) : ∃ x : UInt8, n = (x.toNat : Int) := by
 have hr : 0 ≤ n ∧ n ≤ 255 := by
  simp [Lit.wf, IntKind.min, IntKind.max, IntKind.signed, IntKind.bits] at hw
  omega
 refine ⟨UInt8.ofNat n.toNat, ?_⟩
 simp
 omega
theorem repl_head {m : Mem} {d : D} {cs : List Value} (h : RepL m [d] cs) : ∃ u, cs = [u] ∧ RepD m d u := by
 match cs, h.1 with
 | [u], _ =>
  obtain ⟨v, h1, h2⟩ := h.2 0 d rfl
  injection h1 with h1
  subst h1
  exact ⟨_, rfl, h2⟩
end Go.Proofs.YtjomnccladjpgaaGreat
