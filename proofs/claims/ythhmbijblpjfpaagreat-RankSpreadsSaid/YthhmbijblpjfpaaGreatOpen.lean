/- The arguments of a law opened: a state, read as data, lies right in memory. And handed back unchanged. -/
import Derived.Test.YthhmbijblpjfpaaGreatData2
import Derived.ProofKit
import Derived.Deep.Slices
import Derived.Deep.Fields
import Derived.SliceStrings
import Derived.Below
namespace Go.Proofs.YthhmbijblpjfpaaGreat
open Go.RowKit Go.ChangeShapes Go.WideShapes Go.Deep

section
variable {H : Type} {enc : TypeId × Value → H} {P : Program} {w : World} {base : Nat} {spare : Nat → Bool} {held : Bool}
theorem trod_float {k : FloatKind} {t : TypeId} {fuel : Nat} {cs : List Value} {x : DataW H × List MemPlace} (ht : P.underlying t = some (.float k)) (h : DataW.trod enc P w base spare held fuel t cs = some x) :
    ∃ b, cs = [.float k b] ∧ (Lit.float k b).wf = true := by
  cases fuel with
  | zero => simp [DataW.trod] at h
  | succ n =>
    unfold DataW.trod at h
    rw [ht] at h
    split at h <;> simp_all
theorem list_of {α : Type} (p : Nat → α → Prop) : ∀ n : Nat, (∀ i, i < n → ∃ b, p i b) → ∃ l : List α, l.length = n ∧ ∀ (i : Nat) b, l[i]? = some b → p i b
  | 0, _ => ⟨[], rfl, fun i b h => by simp at h⟩
  | n + 1, h => by
    obtain ⟨l, h1, h2⟩ := list_of p n (fun i hi => h i (by omega))
    obtain ⟨b, hb⟩ := h n (by omega)
    refine ⟨l ++ [b], by simp [h1], fun i c hc => ?_⟩
    by_cases hi : i < l.length
    · rw [List.getElem?_append_left hi] at hc
      exact h2 i c hc
    · rw [List.getElem?_append_right (by omega)] at hc
      have : i = n := by
        have := (List.getElem?_eq_some_iff.1 hc).1
        simp at this
        omega
      subst this
      simp [h1] at hc
      subst hc
      exact hb
/-- the one-cell fields of a struct, each with its reading -/
theorem field_at {t : TypeId} {fs : Array Field} {fuel : Nat} {cs : List Value} {x : DataW H × List MemPlace} (ht : P.underlying t = some (.struct fs)) (hone : oneCellFields P fs = true) (hC : P.cellsOf t = fs.size)
    (h : DataW.trod enc P w base spare held fuel t cs = some x) : cs.length = fs.size ∧ ∀ (i : Nat) (f : Field), fs[i]? = some f → ∃ c y n, cs[i]? = some c ∧ DataW.trod enc P w base spare held n f.type [c] = some y := by
  obtain ⟨xs, n', _, _, hlen, hxl, hf⟩ := DataW.trod_struct ht h
  rw [hC] at hlen
  refine ⟨hlen, fun i f hi => ?_⟩
  obtain ⟨ho, hk⟩ := hone_of hone i f hi
  have hil : i < fs.size := (Array.getElem?_eq_some_iff.1 hi).1
  have h1 := hf i f hi
  have h2 : (cs.drop i).take 1 = [cs[i]'(by omega)] := by
    rw [List.drop_eq_getElem_cons (by omega)]
    rfl
  rw [ho, hk, h2, List.getElem?_eq_getElem (by omega)] at h1
  exact ⟨_, _, n', List.getElem?_eq_getElem (by omega), h1⟩
end

theorem wf_f64 {b : Nat} (h : (Lit.float .f64 b).wf = true) : b < 18446744073709551616 := by
  have : b < 2 ^ 64 := by simpa [Lit.wf] using h
  exact this

section
variable {H : Type} {enc : TypeId × Value → H} {w : World} {base : Nat} {spare : Nat → Bool} {held : Bool}
theorem c_u64 : Tryz.prog.cellsOf 26 = 1 := by kernel_rfl
theorem c_str : Tryz.prog.cellsOf 9 = 1 := by kernel_rfl
theorem c_f64 : Tryz.prog.cellsOf 33 = 1 := by kernel_rfl
theorem c_bool : Tryz.prog.cellsOf 4 = 1 := by kernel_rfl
theorem c_strs : Tryz.prog.cellsOf 34 = 1 := by kernel_rfl
theorem c_lst : Tryz.prog.cellsOf 50 = 2 := by kernel_rfl
theorem c_tsk : Tryz.prog.cellsOf 36 = 7 := by kernel_rfl
theorem c_lsts : Tryz.prog.cellsOf 22 = 1 := by kernel_rfl
theorem c_tsks : Tryz.prog.cellsOf 23 = 1 := by kernel_rfl
theorem c_sta : Tryz.prog.cellsOf 25 = 2 := by kernel_rfl

set_option maxRecDepth 100000 in
theorem lst_of_cells {n : Nat} {cs : List Value} {x : DataW H × List MemPlace} (h : DataW.trod enc Tryz.prog w base spare held n 50 cs = some x) : ∃ l : Lst, cs = Lst.row l := by
  obtain ⟨hlen, hf⟩ := field_at Tryz.underlying50 (by kernel_rfl) c_lst h
  obtain ⟨v0, y0, n0, e0, h0⟩ := hf 0 _ rfl
  obtain ⟨v1, y1, n1, e1, h1⟩ := hf 1 _ rfl
  match cs, hlen with
  | [c0, c1], _ =>
    obtain ⟨a0, r0, _, _⟩ := DataW.trod_int Tryz.underlying26 h0
    obtain ⟨a1, r1, _, _⟩ := DataW.trod_string Tryz.underlying9 h1
    simp at e0 e1 r0 r1
    exact ⟨⟨a0, a1⟩, by rw [e0, e1, r0, r1]⟩
theorem tags_of_cells {n : Nat} {cs : List Value} {x : DataW H × List MemPlace} (h : DataW.trod enc Tryz.prog w base spare held n 34 cs = some x) :
    ∃ (tA : Option Addr) (tC : Nat) (tags : List ByteArray), cs = [.slice tA tags.length tC] ∧ tags.length ≤ 9223372036854775807 ∧ RowsAt w 1 tA (strRows tags) ∧ (tA = none → tC = 0) := by
  rcases open_strings Tryz.underlying34 Tryz.underlying9 c_str h with ⟨hcs, _⟩ | ⟨a, len, cap, ss, hcs, _, hl, hm, hz, _, hcell, _⟩
  · exact ⟨none, 0, [], hcs, by decide, RowsAt.nil _ _ _, fun _ => rfl⟩
  · have hlen : len ≤ ss.length := by rw [hz]; split <;> omega
    have ht : (ss.take len).length = len := by simp; omega
    refine ⟨some a, cap, ss.take len, by rw [ht]; exact hcs, by rw [ht]; simp only [maxLen] at hm; omega, ?_, fun h => by cases h⟩
    intro _
    refine ⟨a, rfl, fun i r hi => ?_⟩
    have hil : i < len := by
      have := (List.getElem?_eq_some_iff.1 hi).1
      simp only [strRows, List.length_map, ht] at this
      exact this
    have hr : r = [.string (ss.getD i ByteArray.empty)] := by
      have h1 : (strRows (ss.take len))[i]? = some [.string (ss.getD i ByteArray.empty)] := by
        simp [strRows, List.getElem?_take, hil, List.getD, List.getElem?_eq_getElem (show i < ss.length by omega)]
      rw [h1] at hi
      injection hi with hi
      exact hi.symm
    subst hr
    refine ⟨rfl, fun j u hj => ?_⟩
    match j, hj with
    | 0, hj =>
      simp at hj
      subst hj
      rw [addAdd, Nat.mul_one]
      exact hcell i (by omega)
set_option maxRecDepth 100000 in
theorem tsk_of_cells {n : Nat} {cs : List Value} {x : DataW H × List MemPlace} (h : DataW.trod enc Tryz.prog w base spare held n 36 cs = some x) : ∃ t : Tsk, cs = Tsk.row t ∧ t.ok w := by
  obtain ⟨hlen, hf⟩ := field_at Tryz.underlying36 (by kernel_rfl) c_tsk h
  obtain ⟨v0, y0, n0, e0, h0⟩ := hf 0 _ rfl
  obtain ⟨v1, y1, n1, e1, h1⟩ := hf 1 _ rfl
  obtain ⟨v2, y2, n2, e2, h2⟩ := hf 2 _ rfl
  obtain ⟨v3, y3, n3, e3, h3⟩ := hf 3 _ rfl
  obtain ⟨v4, y4, n4, e4, h4⟩ := hf 4 _ rfl
  obtain ⟨v5, y5, n5, e5, h5⟩ := hf 5 _ rfl
  obtain ⟨v6, y6, n6, e6, h6⟩ := hf 6 _ rfl
  match cs, hlen with
  | [c0, c1, c2, c3, c4, c5, c6], _ =>
    obtain ⟨a0, r0, _, _⟩ := DataW.trod_int Tryz.underlying26 h0
    obtain ⟨a1, r1, _, _⟩ := DataW.trod_int Tryz.underlying26 h1
    obtain ⟨a2, r2, _, _⟩ := DataW.trod_string Tryz.underlying9 h2
    obtain ⟨a3, r3, _⟩ := DataW.trod_bool Tryz.underlying4 h3
    obtain ⟨a4, r4, w4⟩ := trod_float Tryz.underlying33 h4
    obtain ⟨a5, r5, w5⟩ := trod_float Tryz.underlying33 h5
    obtain ⟨tA, tC, tags, r6, hfew, hrows, _⟩ := tags_of_cells h6
    simp at e0 e1 e2 e3 e4 e5 e6 r0 r1 r2 r3 r4 r5 r6
    exact ⟨⟨a0, a1, a2, a3, a4, a5, tags, tA, tC⟩, by rw [e0, e1, e2, e3, e4, e5, e6, r0, r1, r2, r3, r4, r5, r6], ⟨hfew, hrows, wf_f64 w4, wf_f64 w5⟩⟩
/-- a slice whose elements are rows: a list of them -/
theorem rows_of_slice {α : Type} {enc' : α → List Value} {ok : α → Prop} {k : Nat} {t e : TypeId} (ht : Tryz.prog.underlying t = some (.slice e)) (hC : Tryz.prog.cellsOf e = k) (hk : ∀ x, (enc' x).length = k)
    (he : ∀ (n : Nat) (cs : List Value) (x : DataW H × List MemPlace), DataW.trod enc Tryz.prog w base spare held n e cs = some x → ∃ a, cs = enc' a ∧ ok a)
    {n : Nat} {cs : List Value} {x : DataW H × List MemPlace} (h : DataW.trod enc Tryz.prog w base spare held n t cs = some x) :
    ∃ (A : Option Addr) (C : Nat) (l : List α), cs = [.slice A l.length C] ∧ l.length ≤ 9223372036854775807 ∧ RowsAt w k A (l.map enc') ∧ (∀ a ∈ l, ok a) ∧ (A = none → C = 0) := by
  rcases open_slice ht h with ⟨hcs, _⟩ | ⟨a, len, cap, m, n', D, Pl, hcs, _, hl, hm, hmm, _, hi⟩
  · exact ⟨none, 0, [], hcs, Nat.zero_le _, RowsAt.nil _ _ _, by simp, fun _ => rfl⟩
  · have hlm : len ≤ m := by rw [hmm]; split <;> omega
    obtain ⟨l, hll, hl2⟩ := list_of (fun i b => ok b ∧ ∀ j u, (enc' b)[j]? = some u → w.cell? ((a.add (i * k)).add j) = some u) len (by
      intro i hil
      obtain ⟨cs', h1, h2⟩ := hi i (by omega)
      rw [hC] at h1
      obtain ⟨b, rfl, hok⟩ := he _ _ _ h2
      obtain ⟨_, h4, h5⟩ := World.cells?_some h1
      refine ⟨b, hok, fun j u hj => ?_⟩
      have hjl : j < k := by
        have := (List.getElem?_eq_some_iff.1 hj).1
        omega
      rw [h5 j hjl, hj])
    refine ⟨some a, cap, l, by rw [hll]; exact hcs, by rw [hll]; simp only [maxLen] at hm; omega, ?_, ?_, fun h => by cases h⟩
    · intro _
      refine ⟨a, rfl, fun i r hr => ?_⟩
      rw [List.getElem?_map] at hr
      cases hb : l[i]? with
      | none => rw [hb] at hr; cases hr
      | some b =>
        rw [hb] at hr
        injection hr with hr
        subst hr
        exact ⟨hk b, (hl2 i b hb).2⟩
    · intro b hb
      obtain ⟨i, hi'⟩ := List.getElem?_of_mem hb
      exact (hl2 i b hi').1
set_option maxRecDepth 100000 in
/-- a state, by value -/
theorem sta_open {r : Reach} {b0 : Nat} {v : Value} {d : DataW H} {p : List MemPlace} (hv : Value.okWide Tryz.prog w r b0 25 v) (h : DataW.Trod enc Tryz.prog w base spare held 25 v d p) :
    ∃ s : Sta, v = s.val ∧ s.ok w ∧ (s.tA = none → s.tC = 0) ∧ (s.lA = none → s.lC = 0) := by
  obtain ⟨cs, rfl, hsz⟩ := okWide_struct Tryz.underlying25 hv
  obtain ⟨fuel, hf⟩ := h
  obtain ⟨hlen, hf⟩ := field_at Tryz.underlying25 (by kernel_rfl) c_sta hf
  obtain ⟨v0, y0, n0, e0, h0⟩ := hf 0 _ rfl
  obtain ⟨v1, y1, n1, e1, h1⟩ := hf 1 _ rfl
  obtain ⟨lA, lC, ll, r0, f0, rows0, _, z0⟩ := rows_of_slice (enc' := Lst.row) (ok := fun _ => True) (k := 2) Tryz.underlying22 c_lst (fun _ => rfl) (fun n cs x h => by obtain ⟨l, hl⟩ := lst_of_cells h; exact ⟨l, hl, trivial⟩) h0
  obtain ⟨tA, tC, tl, r1, f1, rows1, ok1, z1⟩ := rows_of_slice (enc' := Tsk.row) (ok := Tsk.ok w) (k := 7) Tryz.underlying23 c_tsk (fun _ => rfl) (fun n cs x h => tsk_of_cells h) h1
  refine ⟨⟨ll, tl, lA, lC, tA, tC⟩, ?_, ⟨⟨f0, rows0⟩, ⟨f1, rows1, ok1⟩⟩, z1, z0⟩
  obtain ⟨cl⟩ := cs
  match cl, hlen with
  | [x0, x1], _ =>
    simp [Value.cells] at e0 e1 r0 r1
    rw [e0, e1, r0, r1]
end
/-- what was read reads as it did, where only new blocks have come -/
theorem args_stay {H : Type} {enc : TypeId × Value → H} {P : Program} {W W' : World} {sp : Nat → Bool} (hl : laidOutB P = true) (hb : Ext W W') : ∀ {ts : List TypeId} {vs : List Value} {ds : List (DataW H)} {ps : List MemPlace},
    (∀ t ∈ ts, P.readableRec t = true ∧ t < P.types.size) → DataW.TrodAll enc P W 0 (fun _ => true) true ts vs ds ps → (∀ x ∈ ps, x.block < W.heap.size) → (∀ x ∈ ps, sp x.block = true) → DataW.TrodAll enc P W' 0 sp true ts vs ds ps
  | [], [], [], _, _, h, _, _ => h
  | t :: ts, v :: vs, d :: ds, ps, hT, ⟨p, q, h1, h2, e⟩, hlt, hs =>
    ⟨p, q, WideElems.Trod_stays hl (hT t (by simp)).1 (hT t (by simp)).2 h1 (fun x hx => hb.same (hlt x (by rw [e]; exact List.mem_append_left _ hx))) (fun x hx => hs x (by rw [e]; exact List.mem_append_left _ hx)),
      args_stay hl hb (fun t ht => hT t (List.mem_cons_of_mem _ ht)) h2 (fun x hx => hlt x (by rw [e]; exact List.mem_append_right _ hx)) (fun x hx => hs x (by rw [e]; exact List.mem_append_right _ hx)), e⟩
end Go.Proofs.YthhmbijblpjfpaaGreat
