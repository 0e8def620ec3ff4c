/- A world that a sort of the shelf leaves, in this proof's words. -/
import Derived.Test.YthhmbijblpjfpaaGreatOwn
import Derived.Shelf.GgSortFunc.InsertionK
namespace Go.Proofs.YthhmbijblpjfpaaGreat
open Go.RowKit Go.Sort

theorem putRow_blk {α : Type} [Inhabited α] {enc : α → Value} {w : World} {g : Nat} {T : TypeId} {cs : List Value} (h : Blk w g T cs) (d : Array α) (hl : d.size ≤ cs.length) :
    Blk (putRow enc w g 0 d) g T (d.toList.map enc ++ cs.drop d.size) ∧ Only g w (putRow enc w g 0 d) := by
  have hg : g < w.heap.size := h.lt
  constructor
  · unfold Blk putRow mapBlock
    simp only [Array.getElem?_modify, if_true]
    unfold Blk at h
    rw [h]
    simp only [Option.map_some, onCells]
    congr 2
    apply Array.ext_getElem?
    intro k
    simp only [putCells, Array.getElem?_mapIdx, List.getElem?_toArray, Nat.zero_le, true_and, Nat.zero_add, Nat.sub_zero]
    by_cases hk : k < d.size
    · rw [List.getElem?_append_left (by simpa using hk), List.getElem?_eq_getElem (by omega)]
      simp [hk]
    · rw [List.getElem?_append_right (by simp; omega), List.getElem?_drop]
      simp only [Array.length_toList, List.length_map]
      rw [show d.size + (k - d.size) = k by omega]
      cases cs[k]? with
      | none => rfl
      | some v => simp [hk]
  · refine ⟨rfl, rfl, rfl, by simp [putRow, mapBlock], fun k hk => ?_⟩
    simp only [putRow, mapBlock, Array.getElem?_modify]
    rw [if_neg (fun e => hk e.symm)]
theorem grow_ext (w : World) (os : Array Obj) : Ext w (grow w os) := by
  refine ⟨rfl, rfl, rfl, by simp [grow], fun k hk => ?_⟩
  simp only [grow]
  rw [Array.getElem?_append_left hk]
/-- one-cell elements -/
theorem sortWorld_blk {α : Type} [Inhabited α] {enc : α → Value} {w : World} {g : Nat} {T : TypeId} {xs rest : List Value} (h : Blk w g T (xs ++ rest)) (d : Array α) (hl : d.size = xs.length) (n : Nat) (os : Array Obj) :
    Blk (grow (putRow enc (Sort.ahead w n) g 0 d) os) g T (d.toList.map enc ++ rest) ∧ Srt g w (grow (putRow enc (Sort.ahead w n) g 0 d) os) := by
  have ha : Blk (Sort.ahead w n) g T (xs ++ rest) := h
  obtain ⟨h1, h2⟩ := putRow_blk (enc := enc) ha d (by simp; omega)
  rw [hl, List.drop_left] at h1
  refine ⟨h1.ext (grow_ext _ _), ?_⟩
  have h3 : Only g w (putRow enc (Sort.ahead w n) g 0 d) := ⟨h2.os, h2.tape, h2.output, h2.size, h2.block⟩
  exact (Srt.of_only h3).tr (Srt.of_ext (grow_ext _ _))
theorem flatK_list {α : Type} [Inhabited α] (enc : α → List Value) (k : Nat) (hk0 : 0 < k) (hk : ∀ x, (enc x).length = k) (d : Array α) : (flatK enc k d).toList = d.toList.flatMap enc := by
  apply List.ext_getElem?
  intro t
  have hlen : (d.toList.flatMap enc).length = d.size * k := by rw [flat_len enc k hk]; simp
  by_cases ht : t < d.size * k
  · have hq : t / k < d.size := (Nat.div_lt_iff_lt_mul hk0).2 ht
    have hr : t % k < k := Nat.mod_lt _ hk0
    have hge : gt d.toList (t / k) = d[t / k]! := by
      rw [gt_lt (by simpa using hq)]
      rw [getElem!_pos d (t / k) hq]
      simp
    have h1 := flat_get enc k hk [] d.toList (t / k) (t % k) ((enc d[t / k]!)[t % k]'(by rw [hk]; exact hr)) (by simpa using hq) (by rw [hge]; exact List.getElem?_eq_getElem _)
    rw [List.append_nil, Nat.div_add_mod' t k] at h1
    rw [h1, Array.getElem?_toList, Array.getElem?_eq_getElem (by rw [size_flatK]; exact ht)]
    have h2 := get_flatK enc k d t ht
    rw [getElem!_pos _ t (by rw [size_flatK]; exact ht)] at h2
    rw [h2, getElem!_pos (enc d[t / k]!) (t % k) (by rw [hk]; exact hr)]
  · rw [List.getElem?_eq_none (by rw [Array.length_toList, size_flatK]; omega), List.getElem?_eq_none (by rw [hlen]; omega)]
theorem sortWorldK_blk {α : Type} [Inhabited α] {enc : α → List Value} {k : Nat} (hk0 : 0 < k) (hk : ∀ x, (enc x).length = k) {w : World} {g : Nat} {T : TypeId} {l : List α} {rest : List Value} (h : Blk w g T (l.flatMap enc ++ rest)) (d : Array α) (hl : d.size = l.length) (n : Nat) (os : Array Obj) :
    Blk (sortWorldK enc k w g 0 n d os) g T (d.toList.flatMap enc ++ rest) ∧ Srt g w (sortWorldK enc k w g 0 n d os) := by
  have h1 := sortWorld_blk (enc := id) h (flatK enc k d) (by rw [size_flatK, flat_len enc k hk, hl]) n os
  rw [flatK_list enc k hk0 hk, List.map_id] at h1
  exact h1
theorem holdsK_blk {α : Type} [Inhabited α] {enc : α → List Value} {k : Nat} (hk0 : 0 < k) (hk : ∀ x, (enc x).length = k) {w : World} {g : Nat} {T : TypeId} {l : List α} {rest : List Value} (h : Blk w g T (l.flatMap enc ++ rest)) : HoldsK enc k w g 0 l.toArray := by
  intro j hj
  rw [size_flatK] at hj
  rw [Nat.zero_add]
  refine ⟨?_, h.rules.2 j⟩
  rw [h.cell j]
  have h1 : (flatK enc k l.toArray).toList = l.flatMap enc := flatK_list enc k hk0 hk l.toArray
  have hs : j < (flatK enc k l.toArray).size := by rw [size_flatK]; exact hj
  rw [List.getElem?_append_left (by rw [flat_len enc k hk]; simpa using hj), ← h1, Array.getElem?_toList, Array.getElem?_eq_getElem hs, getElem!_pos _ j hs]
  rfl
theorem holds_blk {α : Type} [Inhabited α] {enc : α → Value} {w : World} {g : Nat} {T : TypeId} {l : List α} {rest : List Value} (h : Blk w g T (l.map enc ++ rest)) : Holds enc w g 0 l.toArray := by
  intro j hj
  have hj' : j < l.length := by simpa using hj
  rw [Nat.zero_add]
  refine ⟨?_, h.rules.2 j⟩
  rw [h.cell j, List.getElem?_append_left (by simpa using hj'), List.getElem?_map, List.getElem?_eq_getElem hj', getElem!_pos _ j hj]
  rfl
end Go.Proofs.YthhmbijblpjfpaaGreat
