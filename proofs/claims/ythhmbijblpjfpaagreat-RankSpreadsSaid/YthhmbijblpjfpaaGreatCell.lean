/- A cell of an owned row of tasks is written. -/
import Derived.Test.YthhmbijblpjfpaaGreatSep
namespace Go.Proofs.YthhmbijblpjfpaaGreat
open Go.RowKit

theorem flat_setc {α : Type} [Inhabited α] (enc : α → List Value) (k : Nat) (hk : ∀ x, (enc x).length = k) (rest : List Value) : ∀ (l : List α) (i j : Nat) (u : Value) (y : α), i < l.length → j < k → enc y = (enc (gt l i)).set j u →
    (l.flatMap enc ++ rest).set (i * k + j) u = (l.set i y).flatMap enc ++ rest
  | [], i, j, u, y, h, _, _ => by simp at h
  | x :: xs, 0, j, u, y, _, hj, hy => by
    have hy' : enc y = (enc x).set j u := by simpa using hy
    rw [List.set_cons_zero, List.flatMap_cons, List.flatMap_cons, Nat.zero_mul, Nat.zero_add, List.append_assoc, List.append_assoc, List.set_append, if_pos (by rw [hk]; exact hj), hy']
  | x :: xs, i + 1, j, u, y, h, hj, hy => by
    have ih := flat_setc enc k hk rest xs i j u y (by simpa using h) hj (by simpa using hy)
    rw [List.set_cons_succ, List.flatMap_cons, List.flatMap_cons, List.append_assoc, List.append_assoc, List.set_append, if_neg (by rw [hk, Nat.add_mul]; omega), hk]
    rw [show (i + 1) * k + j - k = i * k + j from by rw [Nat.add_mul]; omega, ih]

theorem tag_set {l : List Tsk} {p : Nat} {t' : Tsk} (hp : p < l.length) (ht : t'.tagv = (gt l p).tagv) : (l.set p t').map Tsk.tagv = l.map Tsk.tagv := by
  rw [List.map_set, ht, gt_lt hp]
  apply List.ext_getElem?
  intro i
  rw [List.getElem?_set]
  split
  · rename_i h
    subst h
    simp [hp]
  · rfl
theorem OwnR.cell {w w' : World} {base g n c : Nat} {l : List Tsk} {rest : List Value} (h : OwnR w base (.slice (some ⟨g, 0, none⟩) n c) l) (hn : n = l.length) (hb0 : Blk w g 36 (l.flatMap Tsk.row ++ rest)) {p j : Nat} {u : Value} {t' : Tsk} (hp : p < l.length) (hj : j < 7)
    (hrow : Tsk.row t' = (Tsk.row (gt l p)).set j u) (ht : t'.tagv = (gt l p).tagv) (htg : t'.tags = (gt l p).tags) (hfl : t'.rank < 18446744073709551616 ∧ t'.est < 18446744073709551616)
    (hb : Blk w' g 36 ((l.flatMap Tsk.row ++ rest).set (p * 7 + j) u)) (ho : Only g w w') : OwnR w' base (.slice (some ⟨g, 0, none⟩) n c) (l.set p t') := by
  subst hn
  have hm : gt l p ∈ l := by rw [gt_lt hp]; exact List.getElem_mem hp
  rw [flat_setc Tsk.row 7 tsk_len rest l p j u t' hp hj hrow] at hb
  have hmem : ∀ v ∈ l.set p t', v ∈ l ∨ v = t' := fun v hv => List.mem_or_eq_of_mem_set hv
  have hoff : ∀ v ∈ l, v.tagv.ownBlock = none ∨ v.tagv.ownBlock ≠ some g := fun v hv => h.apart v hv
  have hlen : (l.set p t').length = l.length := by simp
  have hpm := tag_set hp ht
  refine ⟨?_, fun v hv => ?_, fun v hv => ?_, fun v hv => ?_, fun v hv => ?_, ?_⟩
  · rw [hlen]
    exact own_of_blk h.row hb0 hb (by rw [flat_len Tsk.row 7 tsk_len, flat_len Tsk.row 7 tsk_len, hlen])
  · rcases hmem v hv with hv | rfl
    · exact (h.tags v hv).kept (Srt.of_only ho) (hoff v hv)
    · have := (h.tags _ hm).kept (Srt.of_only ho) (hoff _ hm)
      rw [← ht, ← htg] at this
      exact this
  · rcases hmem v hv with hv | rfl
    · exact h.few v hv
    · rw [htg]; exact h.few _ hm
  · rcases hmem v hv with hv | rfl
    · exact h.flt v hv
    · exact hfl
  · rcases hmem v hv with hv | rfl
    · exact h.apart v hv
    · have := h.apart _ hm
      rw [← ht] at this
      exact this
  · have h1 := h.pair
    have h2 : (l.map Tsk.tagv).Pairwise Off := List.pairwise_map.2 h1
    rw [← hpm] at h2
    exact List.pairwise_map.1 h2
end Go.Proofs.YthhmbijblpjfpaaGreat
