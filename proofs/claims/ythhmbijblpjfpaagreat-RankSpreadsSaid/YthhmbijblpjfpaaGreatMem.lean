/- Words for memory: cells that stand from an address on; slices whose elements are rows of cells. -/
import Derived.WalkKit
import Derived.Below
import Derived.Laws.OwnMore
import Derived.Maps.AppendAt
import Derived.Deep.AppendLies
import Derived.Deep.Draws
import Derived.Lib.Hide
import Derived.Laws.ResultCell
import Derived.Laws.Rows
import Derived.WalkLawsBesides
import Derived.WalkSpells
import Derived.Laws.IdiomStrings
namespace Go.Proofs.YthhmbijblpjfpaaGreat
open Go.RowKit

theorem laid {α : Type} (a : α) : ∃ x : α, x = a := ⟨a, rfl⟩
theorem laid0 {α : Type} (a : α) : Classical.choose (laid a) = a := Classical.choose_spec (laid a)
theorem laid1 {α β : Type} (f : α → β) (x : α) : Classical.choose (laid f) x = f x := by rw [Classical.choose_spec (laid f)]
theorem laid2 {α β γ : Type} (f : α → β → γ) (x : α) (y : β) : Classical.choose (laid f) x y = f x y := by rw [Classical.choose_spec (laid f)]
theorem laid3 {α β γ δ : Type} (f : α → β → γ → δ) (x : α) (y : β) (z : γ) : Classical.choose (laid f) x y z = f x y z := by rw [Classical.choose_spec (laid f)]
theorem laid4 {α β γ δ ε : Type} (f : α → β → γ → δ → ε) (x : α) (y : β) (z : γ) (u : δ) : Classical.choose (laid f) x y z u = f x y z u := by rw [Classical.choose_spec (laid f)]

theorem blockAdd (a : Addr) (n : Nat) : (a.add n).block = a.block := by unfold Addr.add; split <;> rfl
theorem addAdd (a : Addr) (i j : Nat) : (a.add i).add j = a.add (i + j) := by
  unfold Addr.add
  by_cases hi : i = 0 <;> by_cases hj : j = 0 <;> simp [hi, hj, Nat.add_assoc]

/-- The cells `cs` stand from `ad` on. -/
def CellsAt (w : World) (ad : Addr) (cs : List Value) : Prop := ∀ j u, cs[j]? = some u → w.cell? (ad.add j) = some u

/-- Nothing that was there has turned: new blocks alone. -/
abbrev Ext (w w' : World) : Prop := Below w.heap.size w w'

theorem Ext.rfl' {w : World} : Ext w w := Below.refl _ _
theorem Ext.tr {a b c : World} (h : Ext a b) (k : Ext b c) : Ext a c := Below.trans h (Below.mono k h.size)
theorem Ext.al {a b : World} (h : Ext a b) (o : Obj) : Ext a (b.alloc o) := Below.alloc h h.size o
theorem Ext.dr {a b : World} (h : Ext a b) : Ext a b.drew := Below.drew h
theorem Ext.st {a b : World} (h : Ext a b) {p : Addr} (hp : a.heap.size ≤ p.block) (u : Value) : Ext a (b.setCell p u) := Below.setCell h hp u
theorem Ext.cell_ {a b : World} (h : Ext a b) {p : Addr} {v : Value} (hc : a.cell? p = some v) : b.cell? p = some v :=
  (Below.cell h (World.block_lt_of_cell? _ _ hc)).trans hc
theorem Ext.block_ {a b : World} (h : Ext a b) {k : Nat} {o : Obj} (hc : a.heap[k]? = some o) : b.heap[k]? = some o :=
  (h.block k (Array.getElem?_eq_some_iff.1 hc).1).trans hc
theorem Ext.cells {a b : World} (h : Ext a b) {ad : Addr} {cs : List Value} (hc : CellsAt a ad cs) : CellsAt b ad cs :=
  fun j u hj => h.cell_ (hc j u hj)

theorem Ext.rules {a b : World} (h : Ext a b) : (∀ k o, k < a.heap.size → b.cell? ⟨k, o, none⟩ = a.cell? ⟨k, o, none⟩) ∧ (∀ k o, k < a.heap.size → b.frozen? ⟨k, o, none⟩ = a.frozen? ⟨k, o, none⟩) :=
  ⟨fun k o hk => Below.cell h (p := ⟨k, o, none⟩) hk, fun k o hk => Below.frozen h (p := ⟨k, o, none⟩) hk⟩

/-- Rows of `size` cells each stand from `ad` on. -/
def RowsAt (w : World) (size : Nat) (A : Option Addr) (rows : List (List Value)) : Prop :=
  rows ≠ [] → ∃ ad, A = some ad ∧ ∀ i r, rows[i]? = some r → r.length = size ∧ CellsAt w (ad.add (i * size)) r

theorem RowsAt.nil (w : World) (size : Nat) (A : Option Addr) : RowsAt w size A [] := fun h => absurd rfl h
theorem RowsAt.at_ {w : World} {size : Nat} {A : Option Addr} {rows : List (List Value)} (h : RowsAt w size A rows) {i : Nat} (hi : i < rows.length) :
    ∃ ad, A = some ad ∧ (rows[i]).length = size ∧ CellsAt w (ad.add (i * size)) rows[i] := by
  have hne : rows ≠ [] := by intro h0; subst h0; simp at hi
  obtain ⟨ad, hA, hr⟩ := h hne
  have := hr i rows[i] (List.getElem?_eq_getElem hi)
  exact ⟨ad, hA, this.1, this.2⟩
theorem Ext.rows {a b : World} (h : Ext a b) {size : Nat} {A : Option Addr} {rows : List (List Value)} (hc : RowsAt a size A rows) : RowsAt b size A rows :=
  fun hne => let ⟨ad, hA, hr⟩ := hc hne; ⟨ad, hA, fun i r hi => ⟨(hr i r hi).1, h.cells (hr i r hi).2⟩⟩
theorem RowsAt.grown {w w' : World} {size : Nat} {A : Option Addr} {rows : List (List Value)} {row : Option Nat} (hc : RowsAt w size A rows) (hg : w.grownBy w' row)
    (hne : ∀ ad, A = some ad → some ad.block ≠ row) : RowsAt w' size A rows :=
  fun h0 => let ⟨ad, hA, hr⟩ := hc h0; ⟨ad, hA, fun i r hi => ⟨(hr i r hi).1, fun j u hj => hg.cell ((hr i r hi).2 j u hj) (by rw [blockAdd, blockAdd]; exact hne ad hA)⟩⟩

section laws
variable {P : Program}

/-- A variable of an aggregate type is loaded whole. -/
theorem run_loadVar_cells (w : World) (ad : Addr) (ty : TypeId) (cs : List Value) (d : TypeDesc) (hc : CellsAt w ad cs)
    (hu : P.underlying ty = some d) (hd : (match d with | .struct _ | .array _ _ => true | _ => false) = true) (hi : (P.info? ty).map (·.size) = some cs.length) :
    (loadVar ty ad).run P w = .ok (.agg cs.toArray) w := by
  have hl : (loadCells ad cs.length).run P w = .ok cs.toArray w := run_loadCells_list (P := P) w ad cs hc
  cases hq : P.info? ty with
  | none => simp [hq] at hi
  | some i =>
    have hs : i.size = cs.length := by simpa [hq] using hi
    have hagg : (isAgg ty).run P w = .ok true w := by
      unfold isAgg
      rw [Sem.run_bind, run_underlying hu w]
      cases d <;> simp_all
    simp [loadVar, Sem.run_bind, hagg, sizeOf, typeInfo, hq, hs, hl]

theorem wp_load_cells {o : Oper} {a : Act} {w : World} {K : Act → World → Prop} {Q : Exit → Act → World → Prop} (ty : TypeId) (x : Operand) (ho : o.op = .load ty x)
    (ad : Addr) (cs : List Value) (hx : a.eval x = .pointer (some ad)) (d : TypeDesc) (hc : CellsAt w ad cs)
    (hu : P.underlying ty = some d) (hd : (match d with | .struct _ | .array _ _ => true | _ => false) = true) (hi : (P.info? ty).map (·.size) = some cs.length)
    (h : K (a.put o.dst (.agg cs.toArray)) w) : o.wp P a w K Q := by
  unfold Oper.wp execOp
  simp only [ho, hx, Instr.loadAt, Instr.sureAddr, Sem.run_bind, Sem.run_pure, Result.andThen_ok, run_loadVar_cells w ad ty cs d hc hu hd hi]
  exact h

theorem wpList_load_cells {ops : Array Oper} {rest : List Oper} {o : Oper} {a : Act} {w : World} {Q : Exit → Act → World → Prop} (hgd : o.guard = none) (ty : TypeId) (x : Operand) (ho : o.op = .load ty x)
    (ad : Addr) (cs : List Value) (hx : a.eval x = .pointer (some ad)) (d : TypeDesc) (hc : CellsAt w ad cs)
    (hu : P.underlying ty = some d) (hd : (match d with | .struct _ | .array _ _ => true | _ => false) = true) (hi : (P.info? ty).map (·.size) = some cs.length)
    (h : wpList P ops Q rest (a.put o.dst (.agg cs.toArray)) w) : wpList P ops Q (o :: rest) a w :=
  wpList_plain hgd fun _ hK => wp_load_cells ty x ho ad cs hx d hc hu hd hi (hK _ _ h)
/-- a string's bytes, a row each -/
def byteRows (s : ByteArray) : List (List Value) := s.data.toList.map fun b => [Value.int .u8 (b.toNat : Int)]

theorem byteRows_at {w : World} {A : Option Addr} {s : ByteArray} (hr : RowsAt w 1 A (byteRows s)) {k : Nat} (hlt : k < s.size) :
    ∃ ad x, A = some ad ∧ w.cell? (ad.add k) = some (.int .u8 ((x : UInt8).toNat : Int)) ∧ s.data.toList[k]? = some x := by
  have hlt' : k < (byteRows s).length := by simp [byteRows]; exact hlt
  obtain ⟨ad, rfl, _, hc⟩ := hr.at_ hlt'
  refine ⟨ad, s.data[k]'hlt, rfl, ?_, ?_⟩
  · have := hc 0 (.int .u8 ((s.data[k]'hlt).toNat : Int)) (by simp [byteRows])
    rw [addAdd] at this
    simpa using this
  · rw [Array.getElem?_toList]
    exact Array.getElem?_eq_getElem hlt

theorem wpList_bytes_of_string {ops : Array Oper} {rest : List Oper} {o : Oper} {a : Act} {w : World} {Q : Exit → Act → World → Prop} (hgd : o.guard = none) (src dst : TypeId) (x : Operand) (ho : o.op = .convert src dst x)
    (s : ByteArray) (e : TypeId) (hx : a.eval x = .string s) (hs : P.underlying src = some .string) (hd : P.underlying dst = some (.slice e)) (he : P.underlying e = some (.int .u8))
    (h : ∀ A c w1, s.size ≤ c → A.isSome = true → Ext w w1 → RowsAt w1 1 A (byteRows s) → wpList P ops Q rest (a.put o.dst (.slice A s.size c)) w1) : wpList P ops Q (o :: rest) a w := by
  refine wpList_plain hgd fun K hK => ?_
  unfold Oper.wp execOp
  simp only [ho, hx, Sem.run_bind, Sem.run_pure, Result.andThen_ok, run_bytes_of_string (P := P) w src dst e s hs hd he]
  refine hK _ _ (h (some ⟨w.heap.size, 0, none⟩) _ _ (grownCap_ge w s.size 0 e) rfl ((Ext.rfl'.dr).al _) ?_)
  intro _
  refine ⟨_, rfl, fun i r hi => ?_⟩
  have hlt : i < s.data.size := by
    have := (List.getElem?_eq_some_iff.1 hi).1
    simpa [byteRows] using this
  have hr : r = [Value.int .u8 (s.data[i].toNat : Int)] := by
    have : (byteRows s)[i]? = some [Value.int .u8 (s.data[i].toNat : Int)] := by
      unfold byteRows
      rw [List.getElem?_map, Array.getElem?_toList, Array.getElem?_eq_getElem hlt]
      rfl
    rw [this] at hi
    injection hi with hi
    exact hi.symm
  subst hr
  refine ⟨rfl, fun j u hj => ?_⟩
  have hj0 : j = 0 := by
    have := (List.getElem?_eq_some_iff.1 hj).1
    simp at this
    exact this
  subst hj0
  have hu : u = Value.int .u8 (s.data[i].toNat : Int) := by simpa using hj.symm
  subst hu
  have hadd : ((⟨w.heap.size, 0, none⟩ : Addr).add (i * 1)).add 0 = ⟨w.heap.size, i, none⟩ := by
    rw [addAdd]
    unfold Addr.add
    split <;> simp_all
  rw [hadd, cell_of_row _ w.heap.size i _ _ _ (heap_alloc_new w.drew _)]
  exact bytesRow_at s _ i hlt
end laws
end Go.Proofs.YthhmbijblpjfpaaGreat
