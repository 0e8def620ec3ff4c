/- Plain law: a task ranked by 'Between' stands just behind the task it was asked for. -/
import Derived.Test.YthhmbijblpjfpaaGreatBetween
import Derived.Test.YthhmbijblpjfpaaGreatFltLaw
namespace Go.Proofs.YthhmbijblpjfpaaGreat
open Go.RowKit

noncomputable def pos (t : Tsk) : Int × Int := (fKey t.rank, t.id)
def le2 (a b : Int × Int) : Prop := a.1 < b.1 ∨ (a.1 = b.1 ∧ a.2 ≤ b.2)
theorem pos_core (l : List Tsk) : (l.map Tsk.core).map pos = l.map pos := by simp [List.map_map, Function.comp_def, Tsk.core, pos]
theorem sd_pos {l : List Tsk} (h : Sd (ltc ordCf) l 0 l.length) : (l.map pos).Pairwise le2 := by
  rw [List.pairwise_iff_getElem]
  intro i j hi hj hij
  rw [List.length_map] at hi hj
  have := h i j (Nat.zero_le _) hij hj
  rw [gt_lt hi, gt_lt hj] at this
  simp only [ltc, decide_eq_false_iff_not, ordCf_val] at this
  simp only [List.getElem_map, pos, le2]
  omega
theorem splice_sorted (L L' : List (Int × Int)) (x : Int × Int) (n : Nat) (hL : L.Pairwise le2) (hL' : L'.Pairwise le2) (hp : L'.Perm (L ++ [x]))
    (h1 : ∀ a ∈ L.take n, a.1 < x.1) (h2 : ∀ b ∈ L.drop n, x.1 < b.1) : L' = L.take n ++ x :: L.drop n := by
  refine List.Perm.eq_of_pairwise (le := le2) ?_ hL' ?_ ?_
  · rintro ⟨a1, a2⟩ ⟨b1, b2⟩ _ _ hab hba
    simp only [le2] at hab hba
    rw [Prod.mk.injEq]
    omega
  · have h3 : (L.take n ++ L.drop n).Pairwise le2 := by rw [List.take_append_drop]; exact hL
    rw [List.pairwise_append] at h3 ⊢
    refine ⟨h3.1, List.pairwise_cons.2 ⟨fun b hb => .inl (h2 b hb), h3.2.1⟩, ?_⟩
    intro a ha b hb
    rcases List.mem_cons.1 hb with rfl | hb
    · exact .inl (h1 a ha)
    · exact h3.2.2 a ha b hb
  · refine hp.trans ?_
    have h4 : L ++ [x] = L.take n ++ (L.drop n ++ [x]) := by rw [← List.append_assoc, List.take_append_drop]
    rw [h4]
    exact List.Perm.append_left _ (List.perm_append_singleton x _)
theorem behind_pos (l l' : List Tsk) (t : Tsk) (n : Nat) (hn : n ≤ l.length) (hs : Sd (ltc ordCf) l 0 l.length) (hs' : Sd (ltc ordCf) l' 0 l'.length)
    (hp : (l'.map Tsk.core).Perm (l.map Tsk.core ++ [t.core])) (h1 : ∀ i, i < n → fKey (gt l i).rank < fKey t.rank) (h2 : ∀ i, n ≤ i → i < l.length → fKey t.rank < fKey (gt l i).rank)
    (hid : ∀ x ∈ l, x.id ≠ t.id) : placeOf l' t.id = n ∧ l'.length = l.length + 1 ∧ ∀ j, j < n → (gt l' j).id = (gt l j).id := by
  have hp2 : (l'.map pos).Perm (l.map pos ++ [pos t]) := by
    have := hp.map pos
    rw [List.map_append, pos_core, pos_core] at this
    exact this
  have e := splice_sorted (l.map pos) (l'.map pos) (pos t) n (sd_pos hs) (sd_pos hs') hp2
    (by
      intro a ha
      obtain ⟨i, hi, rfl⟩ := List.mem_take_iff_getElem.1 ha
      rw [List.length_map] at hi
      have := h1 i (by omega)
      rw [gt_lt (by omega)] at this
      simpa [pos] using this)
    (by
      intro a ha
      obtain ⟨i, hi, rfl⟩ := List.mem_drop_iff_getElem.1 ha
      rw [List.length_map] at hi
      have := h2 (n + i) (by omega) (by omega)
      rw [gt_lt (by omega)] at this
      simpa [pos] using this)
  have hlen : l'.length = l.length + 1 := by
    have := congrArg List.length e
    simp at this
    omega
  have hget : ∀ j, j < n → (gt l' j).id = (gt l j).id := by
    intro j hj
    have h3 : (l'.map pos)[j]? = (l.map pos)[j]? := by
      rw [e, List.getElem?_append_left (by simp; omega), List.getElem?_take_of_lt hj]
    rw [List.getElem?_eq_getElem (by simp; omega), List.getElem?_eq_getElem (by simp; omega)] at h3
    simp [pos] at h3
    rw [gt_lt (by omega), gt_lt (by omega)]
    exact h3.2
  have hat : l'[n]?.map pos = some (pos t) := by
    have h3 : (l'.map pos)[n]? = some (pos t) := by
      rw [e, List.getElem?_append_right (by simp; omega)]
      simp [Nat.min_eq_left hn]
    rw [← h3, List.getElem?_map]
  refine ⟨?_, hlen, hget⟩
  rw [placeOf_eq]
  have hx : n < l'.length := by omega
  rw [List.getElem?_eq_getElem hx] at hat
  simp [pos] at hat
  refine firstAt_hit _ _ n ?_ l'[n] (List.getElem?_eq_getElem hx) (by simp [hat.2])
  intro i r hi hr
  have h4 := hget i hi
  rw [gt_lt (by omega), gt_lt (by omega)] at h4
  rw [List.getElem?_eq_getElem (by omega)] at hr
  injection hr with hr
  subst hr
  rw [h4]
  have := hid l[i] (List.getElem_mem _)
  simpa using this

theorem loAt_lt (l : List Tsk) (k : Int) (hr : ∀ x ∈ l, x.rank < 18446744073709551616) (hk : k < l.length) : loAt l k < 18446744073709551616 := by
  unfold loAt
  split
  · rw [gt_lt (by omega)]; exact hr _ (List.getElem_mem _)
  · rw [fOfBits_eq]; decide
theorem hiAt_lt (l : List Tsk) (k : Int) (hr : ∀ x ∈ l, x.rank < 18446744073709551616) (hk : -1 ≤ k) : hiAt l k < 18446744073709551616 := by
  unfold hiAt
  split
  · rw [gt_lt (by omega)]; exact hr _ (List.getElem_mem _)
  · rw [fOfBits_eq]; decide
theorem sd_key {l : List Tsk} (h : Sd (ltc ordCf) l 0 l.length) {i j : Nat} (hij : i ≤ j) (hj : j < l.length) : fKey (gt l i).rank ≤ fKey (gt l j).rank := by
  rcases Nat.lt_or_eq_of_le hij with hlt | rfl
  · have := h i j (Nat.zero_le _) hlt hj
    simp only [ltc, decide_eq_false_iff_not, ordCf_val] at this
    omega
  · exact Int.le_refl _
theorem btw_behind (l l' : List Tsk) (t : Tsk) (after : Int) (hs : Sd (ltc ordCf) l 0 l.length) (hs' : Sd (ltc ordCf) l' 0 l'.length)
    (hp : (l'.map Tsk.core).Perm (l.map Tsk.core ++ [t.core])) (hid : ∀ x ∈ l, x.id ≠ t.id) (hr : ∀ x ∈ l, x.rank < 18446744073709551616)
    (hb : btw true l after = (t.rank, 0)) :
    (after = 0 ∧ placeOf l' t.id = 0) ∨ (after ≠ 0 ∧ ∃ j : Nat, placeOf l' t.id = (j : Int) + 1 ∧ j + 1 < l'.length ∧ (gt l' j).id = after) := by
  rw [btw_eq, if_neg (by simp)] at hb
  by_cases hz : l.length = 0
  · have hnil : l = [] := List.eq_nil_of_length_eq_zero hz
    subst hnil
    have ha : after = 0 := by
      by_cases ha : after = 0
      · exact ha
      · rw [if_pos ⟨ha, by rw [placeOf_eq]; show (-1 : Int) < 0; decide⟩] at hb
        simp at hb
    have := behind_pos [] l' t 0 (Nat.le_refl _) hs hs' hp (by intro i hi; omega) (by intro i _ hi; simp at hi) hid
    exact .inl ⟨ha, this.1⟩
  · have hmid : ∀ k : Int, -1 ≤ k → k < l.length → fMid (loAt l k) (hiAt l k) = (t.rank, true) → placeOf l' t.id = k + 1 ∧ l'.length = l.length + 1 ∧ ∀ j : Nat, (j : Int) < k + 1 → (gt l' j).id = (gt l j).id := by
      intro k hk0 hk1 hm
      obtain ⟨b1, b2, _, _⟩ := fMid_between _ _ _ (loAt_lt l k hr hk1) (hiAt_lt l k hr hk0) hm
      have h1 : ∀ i, i < (k + 1).toNat → fKey (gt l i).rank < fKey t.rank := by
        intro i hi
        have : loAt l k = (gt l k.toNat).rank := by unfold loAt; rw [if_pos (by omega)]
        rw [this] at b1
        have := sd_key hs (i := i) (j := k.toNat) (by omega) (by omega)
        omega
      have h2 : ∀ i, (k + 1).toNat ≤ i → i < l.length → fKey t.rank < fKey (gt l i).rank := by
        intro i hi hil
        have : hiAt l k = (gt l (k + 1).toNat).rank := by unfold hiAt; rw [if_pos (by omega)]
        rw [this] at b2
        have := sd_key hs (i := (k + 1).toNat) (j := i) (by omega) (by omega)
        omega
      obtain ⟨r1, r2, r3⟩ := behind_pos l l' t (k + 1).toNat (by omega) hs hs' hp h1 h2 hid
      exact ⟨by rw [r1]; omega, r2, fun j hj => r3 j (by omega)⟩
    have hm2 : ∀ m : Nat × Bool, (if m.2 then ((m.1, 0) : Nat × Int) else (0, 100)) = (t.rank, 0) → m = (t.rank, true) := by
      rintro ⟨m1, m2⟩ h
      cases m2
      · simp at h
      · simp at h
        rw [h]
    by_cases ha : after = 0
    · rw [if_neg (by simp [ha]), if_neg hz, if_pos ha] at hb
      obtain ⟨r1, _, _⟩ := hmid (-1) (by omega) (by omega) (hm2 _ hb)
      exact .inl ⟨ha, by rw [r1]; rfl⟩
    · rcases placeOf_cases l after with ⟨hpl, _⟩ | ⟨k, hpl, hk, hka⟩
      · rw [if_pos ⟨ha, by rw [hpl]; decide⟩] at hb
        simp at hb
      · rw [if_neg (fun h => by have := h.2; omega), if_neg hz, if_neg ha, hpl] at hb
        obtain ⟨r1, r2, r3⟩ := hmid k (by omega) (by omega) (hm2 _ hb)
        exact .inr ⟨ha, k, r1, by omega, by rw [r3 k (by omega)]; exact hka⟩
end Go.Proofs.YthhmbijblpjfpaaGreat
