/- Plain law: what a right state is; a right state is as Canon would have it. -/
import Derived.Test.YthhmbijblpjfpaaGreatSpread
namespace Go.Proofs.YthhmbijblpjfpaaGreat
open Go.RowKit Go.Lib

theorem bytesLess_lt : ∀ a b : List UInt8, Op.bytesLess a b = decide (a < b)
  | _, [] => by simp [Op.bytesLess]
  | [], b :: y => by simp [Op.bytesLess]
  | a :: x, b :: y => by
    rw [Op.bytesLess, bytesLess_lt x y, Bool.eq_iff_iff]
    simp [List.cons_lt_cons_iff]
theorem strLt_lt (x y : ByteArray) : strLt x y = decide (bsOf x < bsOf y) := by
  rw [strLt_eq, bytesLess_lt, ByteArray.toList_eq, ByteArray.toList_eq]
/-- tags rise -/
def Rise (l : List ByteArray) : Prop := l.Pairwise fun x y => bsOf x < bsOf y
theorem rise_of_adj {l : List ByteArray} (h : ∀ i, i + 1 < l.length → bsOf (l[i]?.getD ⟨#[]⟩) < bsOf (l[i + 1]?.getD ⟨#[]⟩)) : Rise l := by
  induction l with
  | nil => exact .nil
  | cons x xs ih =>
    have ih' := ih (fun i hi => by have := h (i + 1) (by simp; omega); simpa using this)
    cases xs with
    | nil => exact List.pairwise_singleton _ _
    | cons y ys =>
      have hxy : bsOf x < bsOf y := by have := h 0 (by simp); simpa using this
      refine List.pairwise_cons.2 ⟨fun z hz => ?_, ih'⟩
      rcases List.mem_cons.1 hz with rfl | hz
      · exact hxy
      · exact List.lt_trans hxy ((List.pairwise_cons.1 ih').1 z hz)
structure TagsR (l : List ByteArray) : Prop where
  few : l.length ≤ 4
  ok : ∀ t ∈ l, tagOk t = true
  rise : Rise l
theorem tags_right (l : List ByteArray) : tagsErr l = 0 ↔ TagsR l := by
  rw [tagsErr_eq]
  constructor
  · intro h
    split at h
    · simp at h
    · rename_i h4
      split at h
      · rename_i ha
        rw [List.all_eq_true] at ha
        have hat : ∀ i, (hi : i < l.length) → tagOk l[i] = true ∧ (0 < i → bsOf (l[i - 1]?.getD ⟨#[]⟩) < bsOf l[i]) := by
          intro i hi
          have h1 := ha i (List.mem_range.2 hi)
          rw [tagAt_eq, List.getElem?_eq_getElem hi] at h1
          simp only [Bool.and_eq_true, Bool.or_eq_true, beq_iff_eq] at h1
          refine ⟨h1.1, fun h0 => ?_⟩
          rcases h1.2 with h2 | h2
          · omega
          · rw [List.getElem?_eq_getElem (by omega)] at h2 ⊢
            simp only [strLt_lt, decide_eq_true_eq] at h2
            exact h2
        refine ⟨by omega, fun t ht => ?_, rise_of_adj fun i hi => ?_⟩
        · obtain ⟨i, hi, rfl⟩ := List.getElem_of_mem ht
          exact (hat i hi).1
        · have := (hat (i + 1) hi).2 (by omega)
          rw [List.getElem?_eq_getElem hi]
          exact this
      · simp at h
  · rintro ⟨h1, h2, h3⟩
    rw [if_neg (by omega), if_pos]
    rw [List.all_eq_true]
    intro i hi
    have hi := List.mem_range.1 hi
    rw [tagAt_eq, List.getElem?_eq_getElem hi]
    simp only [Bool.and_eq_true, Bool.or_eq_true, beq_iff_eq]
    refine ⟨h2 _ (List.getElem_mem hi), ?_⟩
    by_cases h0 : i = 0
    · exact .inl h0
    · right
      rw [List.getElem?_eq_getElem (by omega)]
      simp only [strLt_lt, decide_eq_true_eq]
      exact List.pairwise_iff_getElem.1 h3 (i - 1) i (by omega) hi (by omega)
structure TskR (L : List Lst) (t : Tsk) : Prop where
  list : hasLst L t.list = true
  title : titleOk t.title = true
  num : fNan t.rank = false
  rank : isCanon t.rank = true
  est : isCanon t.est = true
  tags : TagsR t.tags
theorem one_right (L : List Lst) (t : Tsk) : oneErr L t = 0 ↔ TskR L t := by
  rw [oneErr_eq]
  constructor
  · intro h
    split at h
    · simp at h
    · split at h
      · simp at h
      · split at h
        · simp at h
        · split at h
          · simp at h
          · rename_i h1 h2 h3 h4
            simp only [Bool.not_eq_true', Bool.not_eq_false, Bool.or_eq_true, not_or, Bool.not_eq_true] at h1 h2 h3 h4
            exact ⟨h1, h2, h3.1, h3.2, h4, (tags_right _).1 h⟩
  · rintro ⟨h1, h2, h3, h4, h5, h6⟩
    simp [h1, h2, h3, h4, h5, (tags_right _).2 h6]
structure RightS (L : List Lst) (ts : List Tsk) : Prop where
  nl : L.length ≤ 20
  nt : ts.length ≤ 60
  lrise : L.Pairwise fun a b => a.id < b.id
  lpos : ∀ l ∈ L, 0 < l.id
  lname : ∀ l ∈ L, titleOk l.name = true
  trise : ts.Pairwise fun a b => a.id < b.id
  tpos : ∀ t ∈ ts, 0 < t.id
  tone : ∀ t ∈ ts, TskR L t
theorem lst_right : ∀ (L : List Lst) (a : Int), lstErr a L = 0 ↔ L.Pairwise (fun a b => a.id < b.id) ∧ (∀ l ∈ L, a < l.id) ∧ ∀ l ∈ L, titleOk l.name = true
  | [], a => by simp [lstErr]
  | x :: xs, a => by
    rw [lstErr]
    have ih := lst_right xs x.id
    constructor
    · intro h
      split at h
      · simp at h
      · split at h
        · simp at h
        · rename_i h1 h2
          obtain ⟨i1, i2, i3⟩ := ih.1 h
          refine ⟨List.pairwise_cons.2 ⟨i2, i1⟩, ?_, ?_⟩
          · intro l hl
            rcases List.mem_cons.1 hl with rfl | hl
            · omega
            · have := i2 l hl; omega
          · intro l hl
            rcases List.mem_cons.1 hl with rfl | hl
            · simpa using h2
            · exact i3 l hl
    · rintro ⟨h1, h2, h3⟩
      obtain ⟨h4, h5⟩ := List.pairwise_cons.1 h1
      have := h2 x (by simp)
      rw [if_neg (by omega), if_neg (by simp [h3 x (by simp)]), ih]
      exact ⟨h5, h4, fun l hl => h3 l (List.mem_cons_of_mem _ hl)⟩
theorem tsk_right (L : List Lst) : ∀ (ts : List Tsk) (a : Int), tskErr L a ts = 0 ↔ ts.Pairwise (fun a b => a.id < b.id) ∧ (∀ t ∈ ts, a < t.id) ∧ ∀ t ∈ ts, TskR L t
  | [], a => by simp [tskErr]
  | x :: xs, a => by
    rw [tskErr]
    have ih := tsk_right L xs x.id
    constructor
    · intro h
      split at h
      · simp at h
      · split at h
        · rename_i h1 h2
          rw [h] at h2
          simp at h2
        · rename_i h1 h2
          obtain ⟨i1, i2, i3⟩ := ih.1 h
          refine ⟨List.pairwise_cons.2 ⟨i2, i1⟩, ?_, ?_⟩
          · intro l hl
            rcases List.mem_cons.1 hl with rfl | hl
            · omega
            · have := i2 l hl; omega
          · intro l hl
            rcases List.mem_cons.1 hl with rfl | hl
            · exact (one_right L l).1 (by simpa using h2)
            · exact i3 l hl
    · rintro ⟨h1, h2, h3⟩
      obtain ⟨h4, h5⟩ := List.pairwise_cons.1 h1
      have := h2 x (by simp)
      rw [if_neg (by omega), if_neg (by simp [(one_right L x).2 (h3 x (by simp))]), ih]
      exact ⟨h5, h4, fun l hl => h3 l (List.mem_cons_of_mem _ hl)⟩
theorem right_iff (L : List Lst) (ts : List Tsk) : rightErr L ts = 0 ↔ RightS L ts := by
  rw [rightErr_eq, lstsErr_eq, tsksErr_eq]
  constructor
  · intro h
    split at h
    · simp at h
    · split at h
      · simp at h
      · split at h
        · rename_i h3
          rw [h] at h3
          simp at h3
        · rename_i h1 h2 h3
          obtain ⟨a1, a2, a3⟩ := (lst_right L 0).1 (by simpa using h3)
          obtain ⟨b1, b2, b3⟩ := (tsk_right L ts 0).1 h
          exact ⟨by omega, by omega, a1, a2, a3, b1, b2, b3⟩
  · rintro ⟨h1, h2, h3, h4, h5, h6, h7, h8⟩
    rw [if_neg (by omega), if_neg (by omega), if_neg (by simp [(lst_right L 0).2 ⟨h3, h4, h5⟩]), (tsk_right L ts 0).2 ⟨h6, h7, h8⟩]

/- Canon leaves what is right as it is -/
theorem canTags_self {l : List ByteArray} (h : Rise l) : canTags l = l := by
  have hs : sortTags l = l := by
    rw [sortTags_eq, List.mergeSort_of_pairwise]
    · rw [List.map_map]
      have : (ofBs ∘ bsOf) = id := by funext x; cases x; rfl
      rw [this, List.map_id]
    · rw [List.pairwise_map]
      exact h.imp fun {a b} hab => by simpa using List.le_of_lt hab
  rw [canTags_eq, hs, compTags_eq, compact_all]
  · rw [List.map_map]
    have : (ofBs ∘ bsOf) = id := by funext x; cases x; rfl
    rw [this, List.map_id]
  · intro j hj
    rw [List.length_map] at hj
    unfold keeps
    by_cases h0 : j = 0
    · simp [h0]
    · have := List.pairwise_iff_getElem.1 h (j - 1) j (by omega) hj (by omega)
      have hne : bsOf l[j] ≠ bsOf l[j - 1] := fun e => by rw [e] at this; exact List.lt_irrefl _ this
      simp [h0, getElem!_pos, hj, show j - 1 < l.length by omega, hne]
theorem fCanon_id {x : Nat} (h : isCanon x = true) : fCanon x = x := by
  rw [isCanon_eq, fBits_eq, fBits_eq] at h
  have h' : ((fCanon x : Nat) : Int) = x := by simpa using h
  omega
theorem canT_right {L : List Lst} {t : Tsk} (h : TskR L t) : canT t = t := by
  rw [canT_eq, fCanon_id h.rank, fCanon_id h.est, canTags_self h.tags.rise]

theorem rise_uniq {α : Type} (f : α → Int) {a b : List α} (hp : a.Perm b) (ha : a.Pairwise fun x y => f x < f y) (hb : b.Pairwise fun x y => f x < f y) : a = b :=
  List.Perm.eq_of_pairwise (le := fun x y => f x < f y) (fun x y _ _ h1 h2 => absurd (Int.lt_trans h1 h2) (Int.lt_irrefl _)) ha hb hp
theorem sd_rise {α : Type} [Inhabited α] (f : α → Int) {l : List α} (h : Sd (ltOf fun x y => cmpI (f x) (f y)) l 0 l.length) (hn : (l.map f).Nodup) : l.Pairwise fun x y => f x < f y := by
  rw [List.pairwise_iff_getElem]
  intro i j hi hj hij
  have h1 := h i j (Nat.zero_le _) hij hj
  rw [gt_lt hi, gt_lt hj] at h1
  simp only [ltOf, decide_eq_false_iff_not, cmpI_lt] at h1
  have h2 : f l[i] ≠ f l[j] := fun e => by
    have := (List.getElem_inj (h₀ := by simpa using hi) (h₁ := by simpa using hj) hn).1 (by simpa using e)
    omega
  omega
theorem rise_nodup {α : Type} (f : α → Int) {l : List α} (h : l.Pairwise fun x y => f x < f y) : (l.map f).Nodup := by
  unfold List.Nodup
  rw [List.pairwise_map]
  exact h.imp fun {a b} hab => by omega
theorem hasLst_iff (l : List Lst) (i : Int) : hasLst l i = true ↔ ∃ x ∈ l, x.id = i := by
  rw [hasLst_eq, List.any_eq_true]
  simp
theorem hasTsk_iff (l : List Tsk) (i : Int) : hasTsk l i = true ↔ ∃ x ∈ l, x.id = i := by
  rw [hasTsk_eq, List.any_eq_true]
  simp
theorem dedL_ids : ∀ (ls acc : List Lst), (acc.map Lst.id).Nodup → ((dedL acc ls).map Lst.id).Nodup
  | [], acc, h => h
  | t :: ts, acc, h => by
    unfold dedL
    split
    · exact dedL_ids ts acc h
    · rename_i hh
      refine dedL_ids ts _ ?_
      rw [List.map_append, List.nodup_append]
      refine ⟨h, by simp, ?_⟩
      intro a ha b hb
      have hb' : b = t.id := by simpa using hb
      subst hb'
      intro e
      obtain ⟨y, hy, rfl⟩ := List.mem_map.1 ha
      exact hh ((hasLst_iff _ _).2 ⟨y, hy, e⟩)
theorem dedL_self : ∀ (ls acc : List Lst), ((acc ++ ls).map Lst.id).Nodup → dedL acc ls = acc ++ ls
  | [], acc, _ => by simp [dedL]
  | t :: ts, acc, h => by
    have hno : ¬ hasLst acc t.id = true := by
      intro hh
      obtain ⟨y, hy, e⟩ := (hasLst_iff _ _).1 hh
      rw [List.map_append, List.nodup_append] at h
      exact h.2.2 y.id (List.mem_map_of_mem hy) t.id (by simp) e
    unfold dedL
    rw [if_neg hno, dedL_self ts _ (by simpa using h)]
    simp
theorem canT_id (t : Tsk) : (canT t).core.id = t.id := by rw [canT_eq]; rfl
theorem dedT_self : ∀ (ts acc : List Tsk), ((acc ++ ts).map Tsk.id).Nodup → dedT acc ts = acc ++ ts.map fun t => (canT t).core
  | [], acc, _ => by simp [dedT]
  | t :: ts, acc, h => by
    have hno : ¬ hasTsk acc t.id = true := by
      intro hh
      obtain ⟨y, hy, e⟩ := (hasTsk_iff _ _).1 hh
      rw [List.map_append, List.nodup_append] at h
      exact h.2.2 y.id (List.mem_map_of_mem hy) t.id (by simp) e
    unfold dedT
    rw [if_neg hno, dedT_self ts _ (by simpa [canT_id] using h)]
    simp
/-- what Canon gives of lists, of tasks -/
structure CanS (L : List Lst) (ts : List Tsk) (L' : List Lst) (ts' : List Tsk) : Prop where
  lists : L'.Perm (dedL [] L)
  lrise : L'.Pairwise fun a b => a.id < b.id
  tasks : (ts'.map Tsk.core).Perm (dedT [] ts)
  trise : ts'.Pairwise fun a b => a.id < b.id
theorem CanS.of {L : List Lst} {ts : List Tsk} {L' : List Lst} {ts' : List Tsk} (h1 : L'.Perm (dedL [] L)) (h2 : Sd (ltOf fun x y => cmpI x.id y.id) L' 0 L'.length) (h3 : (ts'.map Tsk.core).Perm (dedT [] ts)) (h4 : Sd (ltOf fun x y => cmpI x.id y.id) ts' 0 ts'.length) : CanS L ts L' ts' :=
  ⟨h1, sd_rise Lst.id h2 (((h1.map Lst.id).nodup_iff).2 (dedL_ids _ _ (by simp))), h3, sd_rise Tsk.id h4 (by rw [← core_ids]; exact ((h3.map Tsk.id).nodup_iff).2 (dedT_ids _ _ (by simp)))⟩
theorem core_rise {l : List Tsk} (h : l.Pairwise fun a b => a.id < b.id) : (l.map Tsk.core).Pairwise fun a b => a.id < b.id := List.pairwise_map.2 h
theorem CanS.right {L : List Lst} {ts : List Tsk} {L' : List Lst} {ts' : List Tsk} (h : CanS L ts L' ts') (hr : RightS L ts) : L' = L ∧ ts'.map Tsk.core = ts.map Tsk.core := by
  have e1 : dedL [] L = L := by rw [dedL_self L [] (rise_nodup Lst.id hr.lrise)]; rfl
  have e2 : dedT [] ts = ts.map Tsk.core := by
    rw [dedT_self ts [] (rise_nodup Tsk.id hr.trise), List.nil_append]
    exact List.map_congr_left fun t ht => by rw [canT_right (hr.tone t ht)]
  refine ⟨rise_uniq Lst.id (e1 ▸ h.lists) h.lrise hr.lrise, rise_uniq Tsk.id (e2 ▸ h.tasks) (core_rise h.trise) (core_rise hr.trise)⟩
end Go.Proofs.YthhmbijblpjfpaaGreat
