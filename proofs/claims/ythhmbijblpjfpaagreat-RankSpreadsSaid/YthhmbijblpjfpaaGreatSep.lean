/- A row of tasks that a call owns whole: the row and each task's tags lie in blocks of their own, no two alike. -/
import Derived.Test.YthhmbijblpjfpaaGreatOwnTask
namespace Go.Proofs.YthhmbijblpjfpaaGreat
open Go.RowKit

/-- two owned places do not meet -/
def Off (v u : Value) : Prop := v.ownBlock = none ∨ v.ownBlock ≠ u.ownBlock
theorem Off.symm {v u : Value} (h : Off v u) : Off u v := by
  rcases h with h | h
  · by_cases hu : u.ownBlock = none
    · exact .inl hu
    · exact .inr (by rw [h]; exact hu)
  · exact .inr (Ne.symm h)
structure OwnR (w : World) (base : Nat) (v : Value) (l : List Tsk) : Prop where
  row : w.ownsRow base 36 7 v l.length (l.flatMap Tsk.row)
  tags : ∀ t ∈ l, w.ownsRow base 9 1 t.tagv t.tags.length (t.tags.map Value.string)
  few : ∀ t ∈ l, t.tags.length ≤ 1000
  flt : ∀ t ∈ l, t.rank < 18446744073709551616 ∧ t.est < 18446744073709551616
  apart : ∀ t ∈ l, Off t.tagv v
  pair : l.Pairwise fun t u => Off t.tagv u.tagv
theorem OwnR.nil (w : World) (base : Nat) : OwnR w base (.slice none 0 0) [] := ⟨World.ownsRow_nil _ _ _ _, by simp, by simp, by simp, by simp, .nil⟩
theorem OwnR.grown {w w' : World} {base : Nat} {v : Value} {l : List Tsk} {row : Option Nat} (h : OwnR w base v l) (hg : w.grownBy w' row) (hv : v.ownBlock = none ∨ v.ownBlock ≠ row) (ht : ∀ t ∈ l, t.tagv.ownBlock = none ∨ t.tagv.ownBlock ≠ row) : OwnR w' base v l :=
  ⟨h.row.kept hg hv, fun t m => (h.tags t m).kept hg (ht t m), h.few, h.flt, h.apart, h.pair⟩
theorem grown_ext {w w' : World} (h : Ext w w') : w.grownBy w' none := ⟨h.os, h.tape, h.output, h.size, fun k hk _ => h.block k hk⟩
theorem OwnR.ext {w w' : World} {base : Nat} {v : Value} {l : List Tsk} (h : OwnR w base v l) (e : Ext w w') : OwnR w' base v l :=
  h.grown (grown_ext e) (by cases v.ownBlock <;> simp) (fun t _ => by cases t.tagv.ownBlock <;> simp)
theorem OwnR.only {w w' : World} {base g : Nat} {v : Value} {l : List Tsk} (h : OwnR w base v l) (ho : Only g w w') (hg : g < base) : OwnR w' base v l :=
  h.grown (Srt.of_only ho) (.inr fun e => own_ne h.row hg e.symm) (fun t m => .inr fun e => own_ne (h.tags t m) hg e.symm)
theorem OwnR.base {w : World} {b b' : Nat} {v : Value} {l : List Tsk} (h : OwnR w b v l) (hb : b' ≤ b) : OwnR w b' v l :=
  ⟨own_base h.row hb, fun t m => own_base (h.tags t m) hb, h.few, h.flt, h.apart, h.pair⟩
theorem OwnR.ok {w : World} {base : Nat} {v : Value} {l : List Tsk} (h : OwnR w base v l) {t : Tsk} (ht : t ∈ l) : t.ok w :=
  ⟨Nat.le_trans (h.few t ht) (by omega), tags_rows (h.tags t ht), (h.flt t ht).1, (h.flt t ht).2⟩
theorem OwnR.tsks {w : World} {base : Nat} {A : Option Addr} {n c : Nat} {l : List Tsk} (h : OwnR w base (.slice A n c) l) (hn : n = l.length) (hl : l.length ≤ 1000000) : TsksAt w A l :=
  ⟨by omega, by subst hn; exact rows_of_own tsk_len (by omega) h.row, fun t ht => h.ok ht⟩
/-- a task more, its tags new -/
theorem OwnR.push {W w1 w3 : World} {base : Nat} {v v3 : Value} {l : List Tsk} {t : Tsk} {o3 : Obj} (hbase : base ≤ W.heap.size) (hO : OwnR W base v l) (hx : t.rank < 18446744073709551616 ∧ t.est < 18446744073709551616) (hfew : t.tags.length ≤ 1000)
    (hb1 : Ext W w1) (hown1 : w1.ownsRow W.heap.size 9 1 t.tagv t.tags.length (t.tags.map Value.string))
    (hown3 : w3.ownsRow base 36 7 v3 (l.length + 1) (l.flatMap Tsk.row ++ Tsk.row t)) (hg3 : (w1.alloc o3).grownBy w3 v.ownBlock)
    (hat3 : v3.ownBlock = v.ownBlock ∨ v3.ownBlock = some (w1.alloc o3).heap.size) :
    OwnR w3 base v3 (l ++ [t]) ∧ Below base W w3 := by
  have he3 : Ext W (w1.alloc o3) := hb1.al _
  have hsz1 : W.heap.size ≤ w1.heap.size := hb1.size
  have hsz3 : (w1.alloc o3).heap.size = w1.heap.size + 1 := by simp
  have hvb : ∀ g, v.ownBlock = some g → base ≤ g ∧ g < W.heap.size := fun g hg => own_lt hO.row hg
  have htb : ∀ u ∈ l, ∀ g, u.tagv.ownBlock = some g → base ≤ g ∧ g < W.heap.size := fun u hu g hg => own_lt (hO.tags u hu) hg
  have htt : ∀ g, t.tagv.ownBlock = some g → W.heap.size ≤ g ∧ g < w1.heap.size := fun g hg => own_lt hown1 hg
  have hot : Off t.tagv v := by
    cases h1 : t.tagv.ownBlock with
    | none => exact .inl h1
    | some g =>
      refine .inr fun h2 => ?_
      rw [h1] at h2
      have := htt g h1
      have := hvb g h2.symm
      omega
  have hnew : ∀ u : Tsk, Off u.tagv v → (∀ g, u.tagv.ownBlock = some g → g < w1.heap.size) → Off u.tagv v3 := by
    intro u ha hl
    cases h1 : u.tagv.ownBlock with
    | none => exact .inl h1
    | some g =>
      refine .inr fun h2 => ?_
      rcases hat3 with h | h
      · rw [h] at h2
        rcases ha with h3 | h3
        · rw [h1] at h3; cases h3
        · exact h3 h2
      · rw [h, h1] at h2
        injection h2 with h2
        have := hl g h1
        omega
  refine ⟨⟨by simpa using hown3, fun u hu => ?_, fun u hu => ?_, fun u hu => ?_, fun u hu => ?_, ?_⟩, ?_⟩
  · rcases List.mem_append.1 hu with hu | hu
    · exact ((hO.tags u hu).kept (grown_ext he3) (by cases u.tagv.ownBlock <;> simp)).kept hg3 (hO.apart u hu)
    · have := List.mem_singleton.1 hu
      subst this
      exact own_base ((hown1.alloc o3).kept hg3 hot) hbase
  · rcases List.mem_append.1 hu with hu | hu
    · exact hO.few u hu
    · have := List.mem_singleton.1 hu
      subst this
      exact hfew
  · rcases List.mem_append.1 hu with hu | hu
    · exact hO.flt u hu
    · have := List.mem_singleton.1 hu
      subst this
      exact hx
  · rcases List.mem_append.1 hu with hu | hu
    · exact hnew u (hO.apart u hu) (fun g hg => by have := htb u hu g hg; omega)
    · have := List.mem_singleton.1 hu
      subst this
      exact hnew u hot (fun g hg => (htt g hg).2)
  · rw [List.pairwise_append]
    refine ⟨hO.pair, by simp, fun u hu z hz => ?_⟩
    have := List.mem_singleton.1 hz
    subst this
    cases h1 : u.tagv.ownBlock with
    | none => exact .inl h1
    | some g =>
      refine .inr fun h2 => ?_
      rw [h1] at h2
      have := htb u hu g h1
      have := htt g h2.symm
      omega
  · exact Below.grown (Below.mono he3 hbase) hg3 (Nat.le_trans hbase he3.size) (fun k hk => (hvb k hk).1)

theorem fCanon_lt (x : Nat) (h : x < 18446744073709551616) : fCanon x < 18446744073709551616 := by
  rw [fCanon_eq]
  split
  · rw [fTheNan_eq, fOfBits_eq]; decide
  · split
    · omega
    · exact h
theorem canT_ok {x t : Tsk} (hx : x.rank < 18446744073709551616 ∧ x.est < 18446744073709551616) (h : t.core = (canT x).core) : t.rank < 18446744073709551616 ∧ t.est < 18446744073709551616 := by
  have h1 := congrArg Tsk.rank h
  have h2 := congrArg Tsk.est h
  rw [canT_eq] at h1 h2
  have e1 : t.rank = fCanon x.rank := h1
  have e2 : t.est = fCanon x.est := h2
  rw [e1, e2]
  exact ⟨fCanon_lt _ hx.1, fCanon_lt _ hx.2⟩

theorem own_ext {w w' : World} {b : Nat} {e : TypeId} {k : Nat} {v : Value} {n : Nat} {xs : List Value} (h : w.ownsRow b e k v n xs) (x : Ext w w') : w'.ownsRow b e k v n xs :=
  h.kept (grown_ext x) (by cases v.ownBlock <;> simp)

/-- a state that a call owns whole -/
structure OwnS (w : World) (base : Nat) (s : Sta) : Prop where
  lists : w.ownsRow base 50 2 (.slice s.lA s.lists.length s.lC) s.lists.length (s.lists.flatMap Lst.row)
  tasks : OwnR w base (.slice s.tA s.tasks.length s.tC) s.tasks
  off : Off (.slice s.lA s.lists.length s.lC) (.slice s.tA s.tasks.length s.tC)
  offs : ∀ t ∈ s.tasks, Off t.tagv (.slice s.lA s.lists.length s.lC)
  nl : s.lists.length ≤ 1000
  nt : s.tasks.length ≤ 1000
theorem OwnS.ext {w w' : World} {base : Nat} {s : Sta} (h : OwnS w base s) (e : Ext w w') : OwnS w' base s := ⟨own_ext h.lists e, h.tasks.ext e, h.off, h.offs, h.nl, h.nt⟩
theorem OwnS.only {w w' : World} {base g : Nat} {s : Sta} (h : OwnS w base s) (ho : Only g w w') (hg : g < base) : OwnS w' base s := ⟨own_only h.lists ho hg, h.tasks.only ho hg, h.off, h.offs, h.nl, h.nt⟩
theorem OwnS.base {w : World} {b b' : Nat} {s : Sta} (h : OwnS w b s) (hb : b' ≤ b) : OwnS w b' s := ⟨own_base h.lists hb, h.tasks.base hb, h.off, h.offs, h.nl, h.nt⟩
theorem lst_len (x : Lst) : (Lst.row x).length = 2 := rfl
theorem own_lsts {w : World} {base : Nat} {A : Option Addr} {c : Nat} {l : List Lst} (h : w.ownsRow base 50 2 (.slice A l.length c) l.length (l.flatMap Lst.row)) (hn : l.length ≤ 1000) : LstsAt w A l :=
  ⟨by omega, rows_of_own lst_len (by decide) h⟩
theorem OwnS.ok {w : World} {base : Nat} {s : Sta} (h : OwnS w base s) : s.ok w := ⟨own_lsts h.lists h.nl, h.tasks.tsks rfl (Nat.le_trans h.nt (by decide))⟩

section
variable {P : Program} {w : World}
theorem wp_append_own_at {o : Oper} {a : Act} {K : Act → World → Prop} {Q : Exit → Act → World → Prop} (s x : Operand) (t : TypeId)
    (ho : o.op = .call { callee := .builtin .append, args := #[s, x], argTypes := #[t, t] })
    (base : Nat) (e : TypeId) (i : TypeInfo) (z : Value) (size bytes : Nat) (ht : P.underlying t = some (.slice e)) (hi : P.info? e = some i) (hz : i.zero = some z)
    (hsize : i.size = size) (hby : i.bytes = bytes) (hzs : z.cells.size = size) (hsz : 0 < size)
    (v : Value) (n : Nat) (xs : List Value) (hs : a.eval s = v) (hown : w.ownsRow base e size v n xs)
    (ad : Addr) (m c : Nat) (news : List Value) (hx : a.eval x = .slice (some ad) m c) (hl : news.length = m * size) (hnews : ∀ j u, news[j]? = some u → w.cell? (ad.add j) = some u) (h1 : ∀ u ∈ news, u.oneCell' = true)
    (h63 : n + m ≤ maxLen) (hbytes : (n + m) * bytes ≤ 140737488355328) (hbase : base ≤ w.heap.size)
    (h : ∀ v' w', w'.ownsRow base e size v' (n + m) (xs ++ news) → w.grownBy w' v.ownBlock → (v'.ownBlock = v.ownBlock ∨ v'.ownBlock = some w.heap.size) → K (a.put o.dst v') w') : o.wp P a w K Q := by
  obtain ⟨v', w', hr, h2, h3, h4, h5⟩ := run_append_own_at (P := P) w base t o.type e i z size bytes ht hi hz hsize hby hzs hsz v n xs hown ad m c news hl hnews h1 h63 hbytes hbase
  unfold Oper.wp execOp
  simp only [ho, resolve, invoke, builtin, Sem.run_bind, Sem.run_pure, Result.andThen_ok, List.map_toArray, List.map_cons, List.map_nil, hs, hx, hr]
  exact h v' w' h2 h3 h5
end

theorem wp_of_run {P : Program} {o : Oper} {a : Act} {w w' : World} {v : Value} {K : Act → World → Prop} {Q : Exit → Act → World → Prop} (hr : (execOp a.eval o).run P w = .ok (.value v) w') (h : K (a.put o.dst v) w') : o.wp P a w K Q := by
  unfold Oper.wp
  rw [hr]
  exact h
/-- the row sorted: the same tasks -/
theorem OwnR.turned {w w' : World} {base : Nat} {v : Value} {l l' : List Tsk} (h : OwnR w base v l) (hp : l'.Perm l) (hrow : w'.ownsRow base 36 7 v l'.length (l'.flatMap Tsk.row)) (hg : w.grownBy w' v.ownBlock) : OwnR w' base v l' :=
  ⟨hrow, fun t m => (h.tags t (hp.subset m)).kept hg (h.apart t (hp.subset m)), fun t m => h.few t (hp.subset m), fun t m => h.flt t (hp.subset m), fun t m => h.apart t (hp.subset m),
    (hp.pairwise_iff (fun {a b} h => Off.symm h)).2 h.pair⟩
end Go.Proofs.YthhmbijblpjfpaaGreat
