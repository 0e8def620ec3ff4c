/- Blocks that are known whole; stores of aggregates into them. -/
import Derived.Test.YthhmbijblpjfpaaGreatMem
import Derived.Laws.CopyRow
import Derived.Laws.ResultCell
namespace Go.Proofs.YthhmbijblpjfpaaGreat
open Go.RowKit

/-- Block g is just the cells cs of element type T, none frozen. -/
def Blk (w : World) (g : Nat) (T : TypeId) (cs : List Value) : Prop := w.heap[g]? = some (.cells cs.toArray T (0, 0))
/-- w' is w but for block g. -/
structure Only (g : Nat) (w w' : World) : Prop where
  os : w'.os = w.os
  tape : w'.tape = w.tape
  output : w'.output = w.output
  size : w'.heap.size = w.heap.size
  block : ∀ k, k ≠ g → w'.heap[k]? = w.heap[k]?
theorem Only.trans {g : Nat} {a b c : World} (h : Only g a b) (k : Only g b c) : Only g a c :=
  ⟨k.os.trans h.os, k.tape.trans h.tape, k.output.trans h.output, k.size.trans h.size, fun i hi => (k.block i hi).trans (h.block i hi)⟩
theorem Ext.only {a b c : World} {g : Nat} (h : Ext a b) (hg : a.heap.size ≤ g) (k : Only g b c) : Ext a c :=
  Below.trans h ⟨k.os, k.tape, k.output, Nat.le_of_eq k.size.symm, fun i hi => k.block i (by omega)⟩
theorem Blk.lt {w : World} {g : Nat} {T : TypeId} {cs : List Value} (h : Blk w g T cs) : g < w.heap.size := (Array.getElem?_eq_some_iff.1 h).1
theorem Blk.ext {a b : World} {g : Nat} {T : TypeId} {cs : List Value} (h : Blk a g T cs) (e : Ext a b) : Blk b g T cs := e.block_ h
theorem Blk.al {w : World} {g : Nat} {T : TypeId} {cs : List Value} (h : Blk w g T cs) (o : Obj) : Blk (w.alloc o) g T cs := h.ext (Ext.rfl'.al o)
theorem Blk.dr {w : World} {g : Nat} {T : TypeId} {cs : List Value} (h : Blk w g T cs) : Blk w.drew g T cs := h
theorem Blk.new (w : World) (T : TypeId) (cs : List Value) : Blk (w.alloc (.cells cs.toArray T)) w.heap.size T cs := heap_alloc_new w _
theorem Blk.only {a b : World} {g k : Nat} {T : TypeId} {cs : List Value} (h : Blk a g T cs) (o : Only k a b) (hne : g ≠ k) : Blk b g T cs := (o.block g hne).trans h
theorem Blk.grown {a b : World} {g : Nat} {row : Option Nat} {T : TypeId} {cs : List Value} (h : Blk a g T cs) (o : a.grownBy b row) (hne : some g ≠ row) : Blk b g T cs := (o.block g h.lt hne).trans h
theorem Blk.cell {w : World} {g : Nat} {T : TypeId} {cs : List Value} (h : Blk w g T cs) (i : Nat) : w.cell? ⟨g, i, none⟩ = cs[i]? := by
  rw [cell_of_row w g i _ T (0, 0) h]
  simp
theorem Blk.rules {w : World} {g : Nat} {T : TypeId} {cs : List Value} (h : Blk w g T cs) : (∀ i, w.cell? ⟨g, i, none⟩ = cs[i]?) ∧ (∀ i, w.frozen? ⟨g, i, none⟩ = false) :=
  ⟨fun i => h.cell i, fun i => by unfold Blk at h; simp [World.frozen?, h]⟩
theorem addLit (g o i : Nat) : (⟨g, o, none⟩ : Addr).add i = ⟨g, o + i, none⟩ := by unfold Addr.add; split <;> simp_all
/-- the cells of a known block from a place on -/
theorem Blk.cellsAt {w : World} {g : Nat} {T : TypeId} {cs : List Value} (h : Blk w g T cs) (o : Nat) (vs : List Value) (hv : ∀ j u, vs[j]? = some u → cs[o + j]? = some u) : CellsAt w ⟨g, o, none⟩ vs :=
  fun j u hj => by rw [addLit, h.cell]; exact hv j u hj
theorem Blk.cellsAt0 {w : World} {g : Nat} {T : TypeId} {cs : List Value} (h : Blk w g T cs) : CellsAt w ⟨g, 0, none⟩ cs :=
  h.cellsAt 0 cs fun j u hj => by rw [Nat.zero_add]; exact hj

def splice (cs : List Value) (o : Nat) (vs : List Value) : List Value := cs.take o ++ vs ++ cs.drop (o + vs.length)

section laws
variable {P : Program}
theorem run_storeCells_blk {w : World} {g : Nat} {T : TypeId} {cs : List Value} (o : Nat) (vs : List Value) (hb : Blk w g T cs) (hfit : o + vs.length ≤ cs.length) (h1 : ∀ v ∈ vs, v.oneCell' = true) :
    ∃ w1, (storeCells ⟨g, o, none⟩ vs).run P w = .ok () w1 ∧ Blk w1 g T (splice cs o vs) ∧ Only g w w1 := by
  have hr := run_storeCells_at P g o T vs 0 cs.toArray w hb (by simpa using hfit) h1
  refine ⟨_, hr, ?_, ⟨rfl, rfl, rfl, by simp, fun k hk => setRow_other w g k _ hk⟩⟩
  have := setRow_heap w g cs.toArray (cs.toArray.toList.take (o + 0) ++ vs ++ cs.toArray.toList.drop (o + 0 + vs.length)).toArray T (0, 0) hb
  simpa [Blk, splice] using this

theorem wp_store_agg {o : Oper} {a : Act} {w : World} {K : Act → World → Prop} {Q : Exit → Act → World → Prop} (ty : TypeId) (x v : Operand) (ho : o.op = .store ty x v)
    (g off : Nat) (T : TypeId) (cs vs : List Value) (hx : a.eval x = .pointer (some ⟨g, off, none⟩)) (hv : a.eval v = .agg vs.toArray) (hb : Blk w g T cs) (hfit : off + vs.length ≤ cs.length)
    (hi : (P.info? ty).map (·.size) = some vs.length) (h1 : ∀ u ∈ vs, u.oneCell' = true)
    (h : ∀ w1, Blk w1 g T (splice cs off vs) → Only g w w1 → K (a.put o.dst undef) w1) : o.wp P a w K Q := by
  obtain ⟨w1, hr, hb1, ho1⟩ := run_storeCells_blk (P := P) off vs hb hfit h1
  unfold Oper.wp execOp
  cases hq : P.info? ty with
  | none => simp [hq] at hi
  | some i =>
    have hs : i.size = vs.length := by simpa [hq] using hi
    simp only [ho, hx, hv, Instr.storeAt, Instr.sureAddr, storeVar, Value.cells, sizeOf, typeInfo, Sem.run_bind, Sem.run_pure, Result.andThen_ok]
    simp [hq, hs, hr]
    exact h w1 hb1 ho1
theorem wpList_store_agg {ops : Array Oper} {rest : List Oper} {o : Oper} {a : Act} {w : World} {Q : Exit → Act → World → Prop} (hgd : o.guard = none) (ty : TypeId) (x v : Operand) (ho : o.op = .store ty x v)
    (g off : Nat) (T : TypeId) (cs vs : List Value) (hx : a.eval x = .pointer (some ⟨g, off, none⟩)) (hv : a.eval v = .agg vs.toArray) (hb : Blk w g T cs) (hfit : off + vs.length ≤ cs.length)
    (hi : (P.info? ty).map (·.size) = some vs.length) (h1 : ∀ u ∈ vs, u.oneCell' = true)
    (h : ∀ w1, Blk w1 g T (splice cs off vs) → Only g w w1 → wpList P ops Q rest (a.put o.dst undef) w1) : wpList P ops Q (o :: rest) a w :=
  wpList_plain hgd fun _ hK => wp_store_agg ty x v ho g off T cs vs hx hv hb hfit hi h1 fun w1 hb1 ho1 => hK _ _ (h w1 hb1 ho1)

/-- the end of a function whose first result lies in a block -/
theorem bodyPost_cell_tmp {fn : Func} {p u : Tmp} {ty : TypeId} {R : Ending → World → Prop} {a : Act} {w : World} {g : Nat} {T : TypeId} {cs : List Value} {d : TypeDesc}
    (hres : fn.results = #[.cell p ty, .tmp u]) (hp : a.tmps.getD p undef = .pointer (some ⟨g, 0, none⟩)) (hb : Blk w g T cs)
    (hu : P.underlying ty = some d) (hd : (match d with | .struct _ | .array _ _ => true | _ => false) = true) (hi : (P.info? ty).map (·.size) = some cs.length) (hdf : a.defers = [])
    (hR : R (.returned (.tuple #[.agg cs.toArray, a.tmps.getD u undef])) w) : bodyPost P fn R .ret a w := by
  refine bodyPost_ret ?_ hdf hR
  rw [results_cell_tmp hres, hp]
  simp only [asAddr, Sem.run_pure, Result.andThen_ok, run_loadVar_cells w _ ty cs d hb.cellsAt0 hu hd hi]
end laws
end Go.Proofs.YthhmbijblpjfpaaGreat
