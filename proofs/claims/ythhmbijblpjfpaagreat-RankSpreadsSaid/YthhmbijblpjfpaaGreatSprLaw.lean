/- Plain law: behind a spread the tasks stand as they stood, the state is right, and there is a rank between any two. -/
import Derived.Test.YthhmbijblpjfpaaGreatRightP
namespace Go.Proofs.YthhmbijblpjfpaaGreat
open Go.RowKit Go.Lib

theorem rk_table : ((List.range 1000).all fun k => decide (0 < floatOfInt FloatKind.f64 ((k + 1 : Nat) : Int)) && decide (floatOfInt FloatKind.f64 ((k + 1 : Nat) : Int) + 2 ≤ floatOfInt FloatKind.f64 ((k + 2 : Nat) : Int)) && decide (floatOfInt FloatKind.f64 ((k + 2 : Nat) : Int) + 2 ≤ 9218868437227405312)) = true := by decide +kernel
theorem rk_facts {k : Nat} (h1 : 1 ≤ k) (h2 : k ≤ 1000) : 0 < rkOf k ∧ rkOf k + 2 ≤ rkOf (k + 1) ∧ rkOf k + 2 ≤ 9218868437227405312 := by
  have := List.all_eq_true.1 rk_table (k - 1) (List.mem_range.2 (by omega))
  simp only [Bool.and_eq_true, decide_eq_true_eq] at this
  rw [show k - 1 + 1 = k from by omega, show k - 1 + 2 = k + 1 from by omega] at this
  rw [rkOf_eq, rkOf_eq]
  omega
theorem rk_key {k : Nat} (h1 : 1 ≤ k) (h2 : k ≤ 1000) : fKey (rkOf k) = ((rkOf k + 9223372036854775808 : Nat) : Int) := fKey_pos _ (by have := rk_facts h1 h2; omega)
theorem rk_mono {i j : Nat} (h1 : 1 ≤ i) (hij : i < j) (h2 : j ≤ 1000) : rkOf i < rkOf j := by
  induction j with
  | zero => omega
  | succ j ih =>
    have h3 := rk_facts (k := j) (by omega) (by omega)
    by_cases h : i = j
    · subst h; omega
    · have := ih (by omega) (by omega)
      omega
theorem rk_nan {k : Nat} (h1 : 1 ≤ k) (h2 : k ≤ 1000) : fNan (rkOf k) = false := fNan_false _ (by have := rk_facts h1 h2; omega)
theorem rk_canon {k : Nat} (h1 : 1 ≤ k) (h2 : k ≤ 1000) : isCanon (rkOf k) = true := by
  have h := rk_facts h1 h2
  rw [isCanon_eq, fCanon_self (rkOf k) (by omega) (by omega)]
  simp

theorem mid_true {a b : Nat} {pa pb : Int} (hna : fNan a = false) (hnb : fNan b = false) (hk : fKey a < fKey b) (ha : fPlace a = pa) (hb : fPlace b = pb) (h0 : 0 ≤ pa) (h1 : pa + 2 ≤ pb) (h2 : pb < 18446744073709551616) : (fMid a b).2 = true := by
  have hs : fSteps a b = pb - pa - 1 := by
    rw [fSteps_eq, ha, hb, hna, if_neg (by simp [hk]), if_neg (by decide), IntKind.wrap_u64, IntKind.wrap_u64]
    omega
  rw [fMid_eq, hna, hnb, hs, if_neg (by decide), if_neg (by decide), if_neg (by rw [beq_iff_eq]; omega)]
theorem place_big {x : Nat} {k : Int} (hk : fKey x = k) (h1 : 9223372036854775807 < k) (h2 : k < 18446744073709551616) : fPlace x = k - 1 := by
  rw [fPlace_eq, hk, if_pos h1, IntKind.wrap_u64]
  omega
theorem inf_facts : fNan (fOfBits 9218868437227405312) = false ∧ fNan (fOfBits 18442240474082181120) = false ∧ fKey (fOfBits 9218868437227405312) = 18442240474082181120 ∧ fKey (fOfBits 18442240474082181120) = 4503599627370495 := by
  rw [fOfBits_eq, fOfBits_eq]
  rw [show (9218868437227405312 : Int).toNat = 9218868437227405312 from by omega, show (18442240474082181120 : Int).toNat = 18442240474082181120 from by omega]
  refine ⟨fNan_false _ (by omega), fNan_false _ (by omega), ?_, ?_⟩
  · rw [fKey_pos _ (by omega)]; omega
  · rw [fKey_neg _ (by omega) (by omega)]; omega
theorem mid_rk {k : Nat} (h1 : 1 ≤ k) (h2 : k ≤ 999) : (fMid (rkOf k) (rkOf (k + 1))).2 = true := by
  have h3 := rk_facts h1 (by omega : k ≤ 1000)
  have h4 := rk_facts (k := k + 1) (by omega) (by omega)
  have k1 := rk_key h1 (by omega : k ≤ 1000)
  have k2 := rk_key (k := k + 1) (by omega) (by omega)
  exact mid_true (rk_nan h1 (by omega)) (rk_nan (by omega) (by omega)) (by rw [k1, k2]; omega) (place_big k1 (by omega) (by omega)) (place_big k2 (by omega) (by omega)) (by omega) (by omega) (by omega)
theorem mid_lo {k : Nat} (h1 : 1 ≤ k) (h2 : k ≤ 1000) : (fMid (fOfBits 18442240474082181120) (rkOf k)).2 = true := by
  have h3 := rk_facts h1 h2
  obtain ⟨_, i2, _, i4⟩ := inf_facts
  have k1 := rk_key h1 h2
  exact mid_true i2 (rk_nan h1 h2) (by rw [i4, k1]; omega) (show fPlace _ = 4503599627370495 by rw [fPlace_eq, i4, if_neg (by omega)]) (place_big k1 (by omega) (by omega)) (by omega) (by omega) (by omega)
theorem mid_hi {k : Nat} (h1 : 1 ≤ k) (h2 : k ≤ 1000) : (fMid (rkOf k) (fOfBits 9218868437227405312)).2 = true := by
  have h3 := rk_facts h1 h2
  obtain ⟨i1, _, i3, _⟩ := inf_facts
  have k1 := rk_key h1 h2
  exact mid_true (rk_nan h1 h2) i1 (by rw [i3, k1]; omega) (place_big k1 (by omega) (by omega)) (place_big i3 (by omega) (by omega)) (by omega) (by omega) (by omega)

theorem le2_anti {a b : Int × Int} (h : le2 a b) (k : le2 b a) : a = b := by
  obtain ⟨a1, a2⟩ := a
  obtain ⟨b1, b2⟩ := b
  simp only [le2] at h k
  rw [Prod.mk.injEq]
  omega
theorem pos_uniq {a b : List (Int × Int)} (hp : a.Perm b) (ha : a.Pairwise le2) (hb : b.Pairwise le2) : a = b :=
  List.Perm.eq_of_pairwise (le := le2) (fun _ _ _ _ h k => le2_anti h k) ha hb hp
theorem pos_perm {a b : List Tsk} (h : (a.map Tsk.core).Perm (b.map Tsk.core)) : (a.map pos).Perm (b.map pos) := by
  have := h.map pos
  rwa [pos_core, pos_core] at this
theorem ids_of_pos {a b : List Tsk} (h : a.map pos = b.map pos) : a.map Tsk.id = b.map Tsk.id := by
  have := congrArg (List.map Prod.snd) h
  rw [List.map_map, List.map_map] at this
  exact this
theorem gt_of_ids {a b : List Tsk} (h : a.map Tsk.id = b.map Tsk.id) : a.length = b.length ∧ ∀ i, i < a.length → (gt a i).id = (gt b i).id := by
  have hl : a.length = b.length := by have := congrArg List.length h; simpa using this
  refine ⟨hl, fun i hi => ?_⟩
  rw [gt_lt hi, gt_lt (hl ▸ hi)]
  have := congrArg (fun l => l[i]?) h
  simp only [List.getElem?_map, List.getElem?_eq_getElem hi, List.getElem?_eq_getElem (hl ▸ hi : i < b.length), Option.map_some] at this
  injection this
theorem filter_core (p : Int) {a b : List Tsk} (h : a.map Tsk.core = b.map Tsk.core) : (a.filter fun t => t.list == p).map Tsk.core = (b.filter fun t => t.list == p).map Tsk.core := by
  have e : ∀ l : List Tsk, (l.filter fun t => t.list == p).map Tsk.core = (l.map Tsk.core).filter fun t => t.list == p := fun l => by rw [List.filter_map]; rfl
  rw [e, e, h]
/-- the order that is kept: the same tasks with their new ranks -/
theorem spr_order {x0 l : List Tsk} {list : Int} (hx : (x0.map Tsk.id).Nodup) (hp : (l.map Tsk.core).Perm ((x0.filter fun t => t.list == list).map Tsk.core)) (hn : l.length ≤ 999)
    {lb : List Tsk} (hb : (lb.map Tsk.core).Perm (((x0.map (sprT l l.length)).filter fun t => t.list == list).map Tsk.core)) (hsb : Sd (ltc ordCf) lb 0 lb.length) :
    lb.map Tsk.id = l.map Tsk.id ∧ ∀ i, i < lb.length → (gt lb i).rank = rkOf (i + 1) := by
  have hnid : (l.map Tsk.id).Nodup := (ids_perm hp).nodup_iff.2 ((List.Sublist.map Tsk.id List.filter_sublist).nodup hx)
  have hat : ∀ i, (hi : i < l.length) → sprT l l.length l[i] = { l[i] with rank := rkOf (i + 1) } := by
    intro i hi
    have := place_self hnid hi
    rw [gt_lt hi] at this
    unfold sprT
    rw [rkNew_eq, this, if_pos (by omega)]
    rfl
  have hcore : ∀ t : Tsk, (sprT l l.length t).core = sprT l l.length t.core := fun t => by
    unfold sprT
    rw [rkNew_eq, rkNew_eq]
    rfl
  have hf : ((x0.map (sprT l l.length)).filter fun t => t.list == list) = (x0.filter fun t => t.list == list).map (sprT l l.length) := by rw [List.filter_map]; rfl
  have hcm : ∀ z : List Tsk, (z.map (sprT l l.length)).map Tsk.core = (z.map Tsk.core).map (sprT l l.length) := fun z => by
    rw [List.map_map, List.map_map]
    exact List.map_congr_left fun t _ => hcore t
  have hp2 : (lb.map Tsk.core).Perm ((l.map (sprT l l.length)).map Tsk.core) := by
    rw [hf, hcm] at hb
    rw [hcm]
    exact hb.trans (hp.symm.map _)
  have hsl : ((l.map (sprT l l.length)).map pos).Pairwise le2 := by
    rw [List.pairwise_iff_getElem]
    intro i j hi hj hij
    rw [List.length_map, List.length_map] at hi hj
    simp only [List.getElem_map, hat i hi, hat j hj]
    left
    show fKey (rkOf (i + 1)) < fKey (rkOf (j + 1))
    rw [rk_key (by omega) (by omega), rk_key (by omega) (by omega)]
    have := rk_mono (i := i + 1) (j := j + 1) (by omega) (by omega) (by omega)
    omega
  have hids : lb.map Tsk.id = l.map Tsk.id := by
    have h1 := ids_of_pos (pos_uniq (pos_perm hp2) (sd_pos hsb) hsl)
    rw [h1, List.map_map]
    exact List.map_congr_left fun t _ => rfl
  refine ⟨hids, fun i hi => ?_⟩
  obtain ⟨h1, h2⟩ := gt_of_ids hids
  have hm : (gt lb i).core ∈ (l.map (sprT l l.length)).map Tsk.core := hp2.subset (List.mem_map_of_mem (by rw [gt_lt hi]; exact List.getElem_mem hi))
  obtain ⟨y, hy, hyc⟩ := List.mem_map.1 hm
  obtain ⟨z, hz, rfl⟩ := List.mem_map.1 hy
  obtain ⟨j, hj, rfl⟩ := List.getElem_of_mem hz
  have e1 : l[j].id = (gt l i).id := by
    have := congrArg Tsk.id hyc
    rw [← h2 i hi]
    exact this
  have e2 : j = i := nodup_at hnid hj (h1 ▸ hi) (by rw [gt_lt hj]; exact e1)
  subst e2
  have e3 := congrArg Tsk.rank hyc
  rw [hat j hj] at e3
  exact e3.symm
theorem spr_right {L : List Lst} {ts x0 l : List Tsk} (hr : RightS L ts) (hx : x0.map Tsk.core = ts.map Tsk.core) (hn : l.length ≤ 999) : RightS L (x0.map (sprT l l.length)) := by
  have hlen : x0.length = ts.length := by have := congrArg List.length hx; simpa using this
  have hids : x0.map Tsk.id = ts.map Tsk.id := by
    have := congrArg (List.map Tsk.id) hx
    rwa [core_ids, core_ids] at this
  have hm : ∀ t ∈ x0, ∃ y ∈ ts, t.core = y.core := fun t ht => by
    have : t.core ∈ ts.map Tsk.core := hx ▸ List.mem_map_of_mem ht
    obtain ⟨y, hy, e⟩ := List.mem_map.1 this
    exact ⟨y, hy, e.symm⟩
  refine ⟨hr.nl, by rw [List.length_map, hlen]; exact hr.nt, hr.lrise, hr.lpos, hr.lname, ?_, ?_, ?_⟩
  · have h1 : (ts.map Tsk.id).Pairwise (· < ·) := List.pairwise_map.2 hr.trise
    rw [← hids] at h1
    exact List.pairwise_map.2 (List.pairwise_map.1 h1)
  · intro t ht
    obtain ⟨z, hz, rfl⟩ := List.mem_map.1 ht
    obtain ⟨y, hy, e⟩ := hm z hz
    have := congrArg Tsk.id e
    have e1 : z.id = y.id := this
    show 0 < z.id
    rw [e1]
    exact hr.tpos y hy
  · intro t ht
    obtain ⟨z, hz, rfl⟩ := List.mem_map.1 ht
    obtain ⟨y, hy, e⟩ := hm z hz
    have h := hr.tone y hy
    have e1 : z.list = y.list := by have := congrArg Tsk.list e; exact this
    have e2 : z.title = y.title := by have := congrArg Tsk.title e; exact this
    have e3 : z.rank = y.rank := by have := congrArg Tsk.rank e; exact this
    have e4 : z.est = y.est := by have := congrArg Tsk.est e; exact this
    have e5 : z.tags = y.tags := by have := congrArg Tsk.tags e; exact this
    have hrk : (sprT l l.length z).rank = z.rank ∨ ∃ k, 1 ≤ k ∧ k ≤ 1000 ∧ (sprT l l.length z).rank = rkOf k := by
      unfold sprT
      rw [rkNew_eq]
      split
      · exact .inr ⟨_, by omega, by omega, rfl⟩
      · exact .inl rfl
    refine ⟨by show hasLst L z.list = true; rw [e1]; exact h.list, by show titleOk z.title = true; rw [e2]; exact h.title, ?_, ?_, by show isCanon z.est = true; rw [e4]; exact h.est, by show TagsR z.tags; rw [e5]; exact h.tags⟩
    · rcases hrk with h1 | ⟨k, h1, h2, h3⟩
      · rw [h1, e3]; exact h.num
      · rw [h3]; exact rk_nan h1 h2
    · rcases hrk with h1 | ⟨k, h1, h2, h3⟩
      · rw [h1, e3]; exact h.rank
      · rw [h3]; exact rk_canon h1 h2
theorem btw_spread {lm : List Tsk} (hlen : lm.length ≤ 999) (hrk : ∀ i, i < lm.length → (gt lm i).rank = rkOf (i + 1)) (has : Bool) (after : Int) : (btw has lm after).2 ≠ 100 := by
  rw [btw_eq]
  split
  · simp
  · split
    · simp
    · rename_i h2
      split
      · simp
      · rename_i h3
        have hk : -1 ≤ (if after = 0 then (-1 : Int) else placeOf lm after) ∧ (if after = 0 then (-1 : Int) else placeOf lm after) < lm.length := by
          split
          · omega
          · rcases placeOf_cases lm after with ⟨h5, _⟩ | ⟨k, h5, h6, _⟩
            · omega
            · omega
        have hmid : (fMid (loAt lm (if after = 0 then -1 else placeOf lm after)) (hiAt lm (if after = 0 then -1 else placeOf lm after))).2 = true := by
          generalize (if after = 0 then (-1 : Int) else placeOf lm after) = p at hk ⊢
          unfold loAt hiAt
          by_cases h4 : 0 ≤ p
          · rw [if_pos h4, hrk _ (by omega)]
            by_cases h5 : p + 1 < lm.length
            · rw [if_pos h5, hrk _ (by omega), show (p + 1).toNat = p.toNat + 1 from by omega]
              exact mid_rk (by omega) (by omega)
            · rw [if_neg h5]
              exact mid_hi (by omega) (by omega)
          · rw [if_neg h4]
            obtain rfl : p = -1 := by omega
            rw [if_pos (by omega), hrk _ (by omega)]
            exact mid_lo (by omega) (by omega)
        dsimp only
        rw [hmid, if_pos rfl]
        simp
end Go.Proofs.YthhmbijblpjfpaaGreat
