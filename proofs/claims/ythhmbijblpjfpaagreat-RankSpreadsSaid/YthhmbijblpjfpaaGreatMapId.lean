/- A map[uint64]bool of the call's own that is a set: look-up and store. -/
import Derived.Test.YthhmbijblpjfpaaGreatOwn
import Derived.MapKept
namespace Go.Proofs.YthhmbijblpjfpaaGreat
open Go.RowKit

/-- block g is a map whose keys are ids, each with true -/
def MapAt (w : World) (g : Nat) (ids : List Int) : Prop :=
  ∃ (es : Array MapEntry) (clock : Nat), w.heap[g]? = some (.map es clock) ∧ es.toList.map (·.key) = ids.map (Value.int .u64) ∧ ∀ e ∈ es.toList, e.val = .bool true
theorem MapAt.ext {w w' : World} {g : Nat} {ids : List Int} (h : MapAt w g ids) (e : Ext w w') : MapAt w' g ids := by
  obtain ⟨es, c, h1, h2⟩ := h
  exact ⟨es, c, e.block_ h1, h2⟩
theorem MapAt.only {w w' : World} {g k : Nat} {ids : List Int} (h : MapAt w g ids) (o : Only k w w') (hne : g ≠ k) : MapAt w' g ids := by
  obtain ⟨es, c, h1, h2⟩ := h
  exact ⟨es, c, (o.block g hne).trans h1, h2⟩
theorem MapAt.grown {w w' : World} {g : Nat} {ids : List Int} {row : Option Nat} (h : MapAt w g ids) (o : w.grownBy w' row) (hne : some g ≠ row) : MapAt w' g ids := by
  obtain ⟨es, c, h1, h2⟩ := h
  have hlt : g < w.heap.size := (Array.getElem?_eq_some_iff.1 h1).1
  exact ⟨es, c, (o.block g hlt hne).trans h1, h2⟩
theorem MapAt.lt {w : World} {g : Nat} {ids : List Int} (h : MapAt w g ids) : g < w.heap.size := by
  obtain ⟨es, c, h1, _⟩ := h
  exact (Array.getElem?_eq_some_iff.1 h1).1
theorem findNow_ids (id : Int) : ∀ (es : List MapEntry) (ids : List Int) (i : Nat), es.map (·.key) = ids.map (Value.int .u64) → (∀ e ∈ es, e.val = .bool true) →
    ∃ r, Instr.findNow (.int .u64) (.int .u64 id) es i = some r ∧ (r.isSome = ids.contains id) ∧ (∀ j v, r = some (j, v) → v = .bool true)
  | [], [], i, _, _ => ⟨none, rfl, rfl, fun j v h => by cases h⟩
  | [], _ :: _, i, h, _ => by simp at h
  | _ :: _, [], i, h, _ => by simp at h
  | e :: es, a :: ids, i, h, hv => by
    simp only [List.map_cons, List.cons.injEq] at h
    have he : e.key = .int .u64 a := h.1
    by_cases hq : id = a
    · refine ⟨some (i, e.val), ?_, ?_, ?_⟩
      · simp [Instr.findNow, Instr.sameNow, he, hq]
      · simp [hq]
      · intro j v hjv
        injection hjv with hjv
        injection hjv with _ h2
        rw [← h2]
        exact hv e (by simp)
    · obtain ⟨r, h1, h2, h3⟩ := findNow_ids id es ids (i + 1) h.2 (fun e he => hv e (List.mem_cons_of_mem _ he))
      refine ⟨r, ?_, ?_, h3⟩
      · have hqa : (id == a) = false := by simpa using hq
        simp [Instr.findNow, Instr.sameNow, he, h1, hqa]
      · rw [h2]
        simp [hq]
section
variable {P : Program}
theorem run_lookup_ids {w : World} {g : Nat} {ids : List Int} (t k e : TypeId) (ht : P.underlying t = some (.map k e)) (hk : P.underlying k = some (.int .u64)) (hz : ∀ w, (zeroValue e).run P w = .ok (.bool false) w) (hm : MapAt w g ids) (id : Int) :
    (Instr.lookup t (.map (some g)) (.int .u64 id) false).run P w = .ok (.bool (ids.contains id)) w := by
  obtain ⟨es, c, hb, hkeys, hvals⟩ := hm
  obtain ⟨r, h1, h2, h3⟩ := findNow_ids id es.toList ids 0 hkeys hvals
  have hc : ∀ b, (Instr.checkKey b 10000 k (.int .u64 id)).run P w = .ok () w := fun b => MapKept.run_checkKey hk (by simp [MapKept.IsKey]) b 9999
  cases r with
  | none =>
    rw [← h2]
    simp [Instr.lookup, run_underlying ht, MapKept.run_getObj_map hb, hc, MapKept.run_findKey hk h1, hz, Result.andThen]
  | some jv =>
    obtain ⟨j, v⟩ := jv
    have hv := h3 j v rfl
    rw [← h2]
    simp [Instr.lookup, run_underlying ht, MapKept.run_getObj_map hb, hc, MapKept.run_findKey hk h1, hv, Result.andThen]
theorem run_update_ids {w : World} {g : Nat} {ids : List Int} (t k e : TypeId) (ht : P.underlying t = some (.map k e)) (hk : P.underlying k = some (.int .u64)) (hm : MapAt w g ids) (id : Int) (hid : ids.contains id = false) :
    ∃ w', (Instr.mapUpdate t (.map (some g)) (.int .u64 id) (.bool true)).run P w = .ok () w' ∧ MapAt w' g (ids ++ [id]) ∧ Only g w w' := by
  obtain ⟨es, c, hb, hkeys, hvals⟩ := hm
  obtain ⟨r, h1, h2, h3⟩ := findNow_ids id es.toList ids 0 hkeys hvals
  have hc : ∀ b, (Instr.checkKey b 10000 k (.int .u64 id)).run P w = .ok () w := fun b => MapKept.run_checkKey hk (by simp [MapKept.IsKey]) b 9999
  have hr : r = none := by
    cases r with
    | none => rfl
    | some x => rw [hid] at h2; simp at h2
  subst hr
  refine ⟨{ w with heap := w.heap.setIfInBounds g (.map (es.push { key := .int .u64 id, val := .bool true, born := c }) (c + 1)) }, ?_, ?_, ?_⟩
  · simp [Instr.mapUpdate, run_underlying ht, MapKept.run_getObj_map hb, hc, MapKept.run_findKey hk h1, MapKept.run_setObj_map _ hb, Result.andThen]
  · obtain ⟨s1, _⟩ := MapKept.heap_set (o' := .map (es.push { key := .int .u64 id, val := .bool true, born := c }) (c + 1)) hb
    refine ⟨_, _, s1, by simp [hkeys], ?_⟩
    intro x hx
    simp at hx
    rcases hx with hx | rfl
    · exact hvals x (by simpa using hx)
    · rfl
  · obtain ⟨_, s2⟩ := MapKept.heap_set (o' := .map (es.push { key := .int .u64 id, val := .bool true, born := c }) (c + 1)) hb
    exact ⟨rfl, rfl, rfl, by simp, fun j hj => s2 j hj⟩
theorem wpList_lookup_ids {ops : Array Oper} {rest : List Oper} {o : Oper} {a : Act} {w : World} {Q : Exit → Act → World → Prop} (hgd : o.guard = none) (t : TypeId) (m x : Operand) (ho : o.op = .lookup t m x false)
    (k e : TypeId) (ht : P.underlying t = some (.map k e)) (hk : P.underlying k = some (.int .u64)) (hz : ∀ w, (zeroValue e).run P w = .ok (.bool false) w) (g : Nat) (ids : List Int) (id : Int) (hm : a.eval m = .map (some g)) (hx : a.eval x = .int .u64 id) (hM : MapAt w g ids)
    (h : wpList P ops Q rest (a.put o.dst (.bool (ids.contains id))) w) : wpList P ops Q (o :: rest) a w := by
  refine wpList_plain hgd fun K hK => ?_
  have hrun := run_lookup_ids t k e ht hk hz hM id
  generalize ids.contains id = b at hrun h
  unfold Oper.wp
  simp [execOp, ho, hm, hx, hrun, Result.andThen]
  exact hK _ _ h
theorem wpList_update_ids {ops : Array Oper} {rest : List Oper} {o : Oper} {a : Act} {w : World} {Q : Exit → Act → World → Prop} (hgd : o.guard = none) (t : TypeId) (m x v : Operand) (ho : o.op = .mapUpdate t m x v)
    (k e : TypeId) (ht : P.underlying t = some (.map k e)) (hk : P.underlying k = some (.int .u64)) (g : Nat) (ids : List Int) (id : Int) (hm : a.eval m = .map (some g)) (hx : a.eval x = .int .u64 id) (hv : a.eval v = .bool true) (hM : MapAt w g ids) (hid : ids.contains id = false)
    (h : ∀ w', MapAt w' g (ids ++ [id]) → Only g w w' → wpList P ops Q rest (a.put o.dst undef) w') : wpList P ops Q (o :: rest) a w := by
  refine wpList_plain hgd fun K hK => ?_
  obtain ⟨w', hrun, h1, h2⟩ := run_update_ids t k e ht hk hM id hid
  unfold Oper.wp
  simp [execOp, ho, hm, hx, hv, hrun, Result.andThen]
  exact hK _ _ (h w' h1 h2)
end
end Go.Proofs.YthhmbijblpjfpaaGreat
