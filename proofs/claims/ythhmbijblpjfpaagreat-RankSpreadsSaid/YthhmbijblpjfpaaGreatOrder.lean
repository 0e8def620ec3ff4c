/- rank.Order: the tasks of a list, sorted. -/
import Derived.Test.YthhmbijblpjfpaaGreatOrd
namespace Go.Proofs.YthhmbijblpjfpaaGreat
open Go.RowKit

section
variable {P : Program} {Q : Exit → Act → World → Prop}
theorem wp_store_cell {o : Oper} {a : Act} {w : World} {K : Act → World → Prop} (ty : TypeId) (x v : Operand) (ho : o.op = .store ty x v)
    (g i : Nat) (T : TypeId) (cs : List Value) (u : Value) (hx : a.eval x = .pointer (some ⟨g, i, none⟩)) (hv : a.eval v = u) (hu : u.cells = #[u]) (hb : Blk w g T cs) (hfit : i < cs.length)
    (hi : (P.info? ty).map (·.size) = some 1) (h1 : u.oneCell' = true)
    (h : ∀ w1, Blk w1 g T (cs.set i u) → Only g w w1 → K (a.put o.dst undef) w1) : o.wp P a w K Q := by
  obtain ⟨w1, hr, hb1, ho1⟩ := run_storeCells_blk (P := P) i [u] hb (by simp; omega) (by simpa using h1)
  have hs : splice cs i [u] = cs.set i u := by
    unfold splice
    rw [List.set_eq_take_append_cons_drop, if_pos hfit]
    simp
  rw [hs] at hb1
  unfold Oper.wp execOp
  cases hq : P.info? ty with
  | none => simp [hq] at hi
  | some inf =>
    have hsz : inf.size = 1 := by simpa [hq] using hi
    simp only [ho, hx, hv, Instr.storeAt, Instr.sureAddr, storeVar, hu, sizeOf, typeInfo, Sem.run_bind, Sem.run_pure, Result.andThen_ok]
    simp [hq, hsz, hr]
    exact h w1 hb1 ho1
theorem wpList_store_cell {ops : Array Oper} {rest : List Oper} {o : Oper} {a : Act} {w : World} (hgd : o.guard = none) (ty : TypeId) (x v : Operand) (ho : o.op = .store ty x v)
    (g i : Nat) (T : TypeId) (cs : List Value) (u : Value) (hx : a.eval x = .pointer (some ⟨g, i, none⟩)) (hv : a.eval v = u) (hu : u.cells = #[u]) (hb : Blk w g T cs) (hfit : i < cs.length)
    (hi : (P.info? ty).map (·.size) = some 1) (h1 : u.oneCell' = true)
    (h : ∀ w1, Blk w1 g T (cs.set i u) → Only g w w1 → wpList P ops Q rest (a.put o.dst undef) w1) : wpList P ops Q (o :: rest) a w :=
  wpList_plain hgd fun _ hK => wp_store_cell ty x v ho g i T cs u hx hv hu hb hfit hi h1 fun w1 hb1 ho1 => hK _ _ (h w1 hb1 ho1)
end
theorem own_shape {w : World} {base : Nat} {e : TypeId} {k : Nat} {v : Value} {n : Nat} {xs : List Value} (h : w.ownsRow base e k v n xs) : ∃ A c, v = .slice A n c := by
  rcases own_form h with ⟨rfl, rfl, _⟩ | ⟨g, cap, rfl, _⟩
  · exact ⟨_, _, rfl⟩
  · exact ⟨_, _, rfl⟩

/-- a task but for where its tags lie -/
def Tsk.core (t : Tsk) : Tsk := { t with tA := none, tC := 0 }
/-- a task's tags do not lie in the row -/
def Apart (v : Value) (t : Tsk) : Prop := t.tags ≠ [] → ∀ ad, t.tA = some ad → some ad.block ≠ v.ownBlock
/-- a row of tasks that a call owns: its tasks lie right, apart from the row itself -/
structure OwnT (w : World) (base : Nat) (v : Value) (l : List Tsk) : Prop where
  row : w.ownsRow base 36 7 v l.length (l.flatMap Tsk.row)
  oks : ∀ t ∈ l, t.ok w
  apart : ∀ t ∈ l, Apart v t
theorem OwnT.nil (w : World) (base : Nat) : OwnT w base (.slice none 0 0) [] := ⟨World.ownsRow_nil _ _ _ _, by simp, by simp⟩
theorem OwnT.ext {w w' : World} {base : Nat} {v : Value} {l : List Tsk} (h : OwnT w base v l) (e : Ext w w') : OwnT w' base v l :=
  ⟨h.row.kept (Srt.of_ext (g := 0) e |> fun s => ⟨s.os, s.tape, s.output, s.size, fun k hk _ => e.block k hk⟩ : w.grownBy w' none) (by cases v.ownBlock <;> simp), fun t ht => (h.oks t ht).ext e, h.apart⟩
theorem block_of_tags {w : World} {t : Tsk} (h : t.ok w) (hne : t.tags ≠ []) {ad : Addr} (he : t.tA = some ad) : ad.block < w.heap.size := by
  have hl : 0 < t.tags.length := List.length_pos_iff.2 hne
  obtain ⟨ad', x, h1, hc, _⟩ := strRows_at h.rows hl
  rw [he] at h1
  injection h1 with h1
  subst h1
  have := World.block_lt_of_cell? _ _ hc
  rwa [blockAdd] at this
theorem ok_grown {w w' : World} {t : Tsk} {row : Option Nat} (h : t.ok w) (hg : w.grownBy w' row) (ha : t.tags ≠ [] → ∀ ad, t.tA = some ad → some ad.block ≠ row) : t.ok w' :=
  ⟨h.few, fun hne => (RowsAt.grown h.rows hg (fun ad he => ha (fun e => hne (by rw [e]; rfl)) ad he)) hne, h.rank, h.est⟩

theorem insertion_zero (D F : Value) (w : World) : Calls Tryz.prog 141 #[D, .int .i64 0, .int .i64 0, F] w fun e w' => e = .returned (.tuple #[]) ∧ w = w' := by
  go_enter Tryz.func141, Tryz.ntmps141
  go_wp2_with fail
  refine wp_loop_rounds 1 ?_
  rw [rounds_succ]
  go_wp2
  go_end0
  exact ⟨rfl, rfl⟩
theorem stable_zero (D F : Value) (w : World) : Calls Tryz.prog 104 #[D, .int .i64 0, F] w fun e w' => e = .returned (.tuple #[]) ∧ w = w' := by
  go_enter Tryz.func104, Tryz.ntmps104
  go_wp2_with fail
  refine wp_loop_rounds 1 ?_
  rw [rounds_succ]
  go_wp2_with (go_at_call 141; refine (insertion_zero _ _ _).mono ?_; rintro e w2 ⟨rfl, rfl⟩)
  refine wp_loop_rounds 1 ?_
  rw [rounds_succ]
  go_wp2
  go_end0
  exact ⟨rfl, rfl⟩
theorem sortStable_zero (A : Option Addr) (c : Nat) (F : Value) (w : World) : Calls Tryz.prog 61 #[.slice A 0 c, F] w fun e w' => e = .returned (.tuple #[]) ∧ w = w' := by
  go_enter Tryz.func61, Tryz.ntmps61
  go_wp2_with (go_at_call 104; refine (stable_zero _ _ _).mono ?_; rintro e w2 ⟨rfl, rfl⟩)
  go_end0
  exact ⟨rfl, rfl⟩

/-- an owned row of tasks, sorted -/
theorem sortOwn_any (F : Nat) (caps : Array Value) (cf : Tsk → Tsk → Int) (base : Nat) (v : Value) (l : List Tsk) (w : World) (hw : Weak (ltc cf))
    (hF : ∀ args w, Sem.run Tryz.prog (callFunc F args) w = .ok (.enter F args) w) (hc : ∀ g, v.ownBlock = some g → CmpOK F caps cf g w) (hB : OwnT w base v l) (hl : l.length ≤ 1000000) :
    Calls Tryz.prog 61 #[v, .func (.func F) #[] caps] w
      fun e w' => e = .returned (.tuple #[]) ∧ ∃ l', OwnT w' base v l' ∧ l'.Perm l ∧ Sd (ltc cf) l' 0 l'.length ∧ w.grownBy w' v.ownBlock := by
  rcases own_form hB.row with ⟨rfl, hn, hx⟩ | ⟨g, cap, rfl, hbg, hlt, hnc, rest, hb⟩
  · have hnil : l = [] := List.eq_nil_of_length_eq_zero hn
    subst hnil
    refine (sortStable_zero none 0 _ w).mono ?_
    rintro e w' ⟨rfl, rfl⟩
    exact ⟨rfl, [], OwnT.nil _ _, List.Perm.refl _, fun i j h1 h2 h3 => by simp at h3, World.grownBy.refl _ _⟩
  · refine (sortStable_any g cap F caps cf l l.length rest w hF (hc g rfl) rfl hb hl).mono ?_
    rintro e w' ⟨rfl, hb', hs⟩
    obtain ⟨g1, sd⟩ := stableL_spec hw l.length l (Nat.le_refl _)
    generalize stableL (ltc cf) l.length l = l' at *
    refine ⟨rfl, l', ⟨?_, fun t ht => ?_, fun t ht => hB.apart t (g1.perm.mem_iff.1 ht)⟩, g1.perm, by rw [g1.len]; exact sd, hs⟩
    · rw [g1.len]
      exact own_of_blk hB.row hb hb' (by rw [flat_len Tsk.row 7 tsk_len, flat_len Tsk.row 7 tsk_len, g1.len])
    · exact ok_grown (hB.oks t (g1.perm.mem_iff.1 ht)) hs (hB.apart t (g1.perm.mem_iff.1 ht))

theorem sl_size (t : TypeId) (h : (Tryz.prog.info? t).map (·.size) = some 1) : (Tryz.prog.info? t).map (·.size) = some 1 := h
theorem strs_size : (Tryz.prog.info? 34).map (·.size) = some 1 := by kernel_rfl

theorem ordCf_val (x y : Tsk) : ordCf x y < 0 ↔ fKey x.rank < fKey y.rank ∨ (fKey x.rank = fKey y.rank ∧ x.id < y.id) := by
  rw [ordCf_eq, cmpI_eq, cmpI_eq]
  simp only [firstNZ]
  by_cases h1 : fKey x.rank < fKey y.rank
  · simp [h1]
  · by_cases h2 : fKey y.rank < fKey x.rank
    · simp [h1, h2]
      omega
    · have h3 : fKey x.rank = fKey y.rank := by omega
      by_cases h4 : x.id < y.id
      · simp [h1, h2, h3, h4]
      · by_cases h5 : y.id < x.id
        · simp [h1, h2, h3, h4, h5]
        · simp [h1, h2, h3, h4, h5]
theorem ordCf_weak : Weak (ltc ordCf) := by
  constructor
  · intro x y h
    simp only [ltc, decide_eq_true_eq, decide_eq_false_iff_not, ordCf_val] at h ⊢
    omega
  · intro x y z h1 h2
    simp only [ltc, decide_eq_false_iff_not, ordCf_val] at h1 h2 ⊢
    omega
theorem own_lt {w : World} {base : Nat} {e : TypeId} {k : Nat} {v : Value} {n : Nat} {xs : List Value} (h : w.ownsRow base e k v n xs) {g : Nat} (hg : v.ownBlock = some g) : base ≤ g ∧ g < w.heap.size := World.ownsRow.lt h g hg
/-- one task more in a row of the call's own, its tags copied -/
theorem order_push {wr w1 w2 w3 : World} {base : Nat} {v v3 : Value} {l : List Tsk} {x : Tsk} {A1 : Option Addr} {c1 : Nat} {o1 o3 : Obj} (hbase : base ≤ wr.heap.size) (hO : OwnT wr base v l) (hx : x.rank < 18446744073709551616 ∧ x.est < 18446744073709551616) (hfew : x.tags.length ≤ 1000)
    (hb1 : Ext (wr.alloc o1) w1) (hown1 : w1.ownsRow (wr.alloc o1).heap.size 9 1 (.slice A1 x.tags.length c1) x.tags.length (x.tags.map Value.string)) (ho2 : Only wr.heap.size w1 w2)
    (hown3 : w3.ownsRow base 36 7 v3 (l.length + 1) (l.flatMap Tsk.row ++ Tsk.row { x with tA := A1, tC := c1 })) (hg3 : (w2.alloc o3).grownBy w3 v.ownBlock)
    (hat3 : v3.ownBlock = v.ownBlock ∨ v3.ownBlock = some (w2.alloc o3).heap.size) :
    OwnT w3 base v3 (l ++ [{ x with tA := A1, tC := c1 }]) ∧ Below base wr w3 := by
  have hsz0 : (wr.alloc o1).heap.size = wr.heap.size + 1 := by simp
  have he2 : Ext wr w2 := ((Ext.rfl'.al _).tr hb1).only (Nat.le_refl _) ho2
  have he3 : Ext wr (w2.alloc o3) := he2.al _
  have hsz1 : wr.heap.size + 1 ≤ w1.heap.size := by have := hb1.size; omega
  have hsz2 : w2.heap.size = w1.heap.size := ho2.size
  have hsz3 : (w2.alloc o3).heap.size = w2.heap.size + 1 := by simp
  have hvb : ∀ g, v.ownBlock = some g → base ≤ g ∧ g < wr.heap.size := fun g hg => own_lt hO.row hg
  -- the copied tags
  have htag : ∀ ad, A1 = some ad → x.tags ≠ [] → wr.heap.size + 1 ≤ ad.block ∧ ad.block < w1.heap.size := fun ad he hne => by
    rcases own_form hown1 with ⟨_, hn, _⟩ | ⟨g, cap, hv, h1, h2, _⟩
    · exact absurd (List.eq_nil_of_length_eq_zero hn) hne
    · injection hv with h3
      rw [he] at h3
      injection h3 with h3
      rw [h3]
      exact ⟨by rw [hsz0] at h1; exact h1, h2⟩
  have hrows1 : RowsAt w1 1 A1 (strRows x.tags) := by
    have := rows_of_own (k := 1) (l := x.tags) (enc := strEnc) (fun _ => rfl) Nat.one_pos (by rw [flat_str]; exact hown1)
    exact this
  have hrows3 : RowsAt w3 1 A1 (strRows x.tags) := by
    intro hne
    have hne' : x.tags ≠ [] := fun e => hne (by rw [e]; rfl)
    have h2 : RowsAt w2 1 A1 (strRows x.tags) := hrows1.grown (Srt.of_only ho2) fun ad he => by
      have := htag ad he hne'
      simp
      omega
    have h3 : RowsAt (w2.alloc o3) 1 A1 (strRows x.tags) := (Ext.rfl'.al _).rows h2
    exact (h3.grown hg3 fun ad he => by
      have h4 := htag ad he hne'
      intro h5
      have := hvb _ h5.symm
      omega) hne
  refine ⟨⟨?_, fun t ht => ?_, fun t ht => ?_⟩, ?_⟩
  · simpa using hown3
  · rcases List.mem_append.1 ht with ht | ht
    · exact ok_grown ((hO.oks t ht).ext he3) hg3 (hO.apart t ht)
    · have := List.mem_singleton.1 ht
      subst this
      exact ⟨Nat.le_trans hfew (by omega), hrows3, hx.1, hx.2⟩
  · rcases List.mem_append.1 ht with ht | ht
    · intro hne ad he
      rcases hat3 with h | h
      · rw [h]
        exact hO.apart t ht hne ad he
      · rw [h]
        have h5 := block_of_tags (hO.oks t ht) hne he
        have h6 := he3.size
        intro h7
        injection h7 with h7
        omega
    · have := List.mem_singleton.1 ht
      subst this
      intro hne ad he
      have h4 := htag ad he hne
      rcases hat3 with h | h
      · rw [h]
        intro h5
        have := hvb _ h5.symm
        omega
      · rw [h]
        intro h7
        injection h7 with h7
        omega
  · exact Below.grown (Below.mono he3 hbase) hg3 (Nat.le_trans hbase he3.size) (fun k hk => (hvb k hk).1)

set_option maxRecDepth 100000 in
theorem order_any (s : Sta) (list : Int) (w : World) (hs : s.ok w) (hn : s.tasks.length ≤ 1000) (ht : ∀ t ∈ s.tasks, t.tags.length ≤ 1000) :
    Calls Tryz.prog 19 #[s.val, .int .u64 list] w fun e w' => ∃ v l, e = .returned v ∧ OwnT w' w.heap.size v l ∧ Ext w w' ∧
      (l.map Tsk.core).Perm ((s.tasks.filter fun t => t.list == list).map Tsk.core) ∧ Sd (ltc ordCf) l 0 l.length := by
  obtain ⟨i0, hi0, hz0, hz1, hz2⟩ := info_parts tsk_info
  have hsf := store_float
  have HS := Lib.hid hs
  have HT := Lib.hid ht
  clear hs ht
  go_enter Tryz.func19, Tryz.ntmps19
  go_wp2_with fail
  go_loopw [5, 11] (fun v i wr => ∃ (k : Nat) (l : List Tsk), k ≤ s.tasks.length ∧ i = .int .i64 k ∧ l.length ≤ k ∧ OwnT wr w.heap.size v l ∧ Ext w wr ∧
      (s.tasks.filter fun t => t.list == list).map Tsk.core = l.map Tsk.core ++ ((s.tasks.drop k).filter fun t => t.list == list).map Tsk.core) (fun _ i _ => s.tasks.length - (intOf i).toNat)
  case atStart => exact ⟨0, [], Nat.zero_le _, rfl, Nat.le_refl _, OwnT.nil _ _, Ext.rfl'.al _, rfl⟩
  case round =>
    obtain ⟨k, l, hk, rfl, hlk, hO, hb, hR⟩ := hrel
    have HO := Lib.hid hO
    by_cases hlt : k < s.tasks.length
    · obtain ⟨ad, x, hA, hx, hxo, hc⟩ := HS.out.tasks.at_ hlt
      rw [drop_cons hx, List.filter_cons] at hR
      have HR := Lib.hid hR
      have hcr := hb.cells hc
      have HX := Lib.hid hxo
      have htx := HT.out x (List.mem_of_getElem? hx)
      obtain ⟨sl, st, lA, lC, tA, tC⟩ := s
      dsimp only at hA hlt hk hn
      subst hA
      clear hR hx hc hxo hO
      by_cases hq : x.list = list
      · have hd : (x.list == list) = true := by simpa using hq
        have HQ := Lib.hid hq
        clear hq
        go_wp2_with (first
          | (refine wpList_load_cells rfl 36 (.tmp 13) rfl (ad.add (k * 7)) (Tsk.row x) rfl _ hcr Tryz.underlying36 rfl tsk_size ?_)
          | (go_at_call 60; refine (clone_any x.tA x.tC x.tags _ (by omega) (by exact (hb.al _).rows HX.out.rows)).mono ?_; rintro e w1 ⟨v1, rfl, hb1, hown1, hnil1⟩; obtain ⟨A1, c1, rfl⟩ := own_shape hown1; have hbx1 : Blk w1 wr.heap.size 36 (Tsk.row x) := ((Blk.new wr _ (Tsk.row x)).ext hb1); have HB1 := Lib.hid hbx1; have HOWN1 := Lib.hid hown1; clear hbx1 hown1 hnil1)
          | (refine wpList_store_cell rfl 34 (.tmp 22) (.tmp 21) rfl wr.heap.size 6 36 (Tsk.row x) (.slice A1 x.tags.length c1) rfl rfl rfl HB1.out (by simp) strs_size rfl ?_; intro w2 hb2 ho2; have HB2 := Lib.hid hb2; clear hb2)
          | (refine wpList_load_cells rfl 36 (.tmp 7) rfl ⟨wr.heap.size, 0, none⟩ (Tsk.row { x with tA := A1, tC := c1 }) rfl _ HB2.out.cellsAt0 Tryz.underlying36 rfl tsk_size ?_)
          | (at_builtin; refine wpList_append_own_at _ rfl (.tmp 23) (.tmp 25) 23 rfl w.heap.size 36 i0 _ 7 80 Tryz.underlying23 hi0 hz0 hz1 hz2 rfl (by omega) u5 l.length (l.flatMap Tsk.row) rfl (by exact ((HO.out.ext (((Ext.rfl'.al _).tr hb1).only (Nat.le_refl _) ho2)).row).alloc _) ⟨w2.heap.size, 0, none⟩ 1 1 (Tsk.row { x with tA := A1, tC := c1 }) rfl rfl (by exact (Blk.new w2 _ (Tsk.row { x with tA := A1, tC := c1 })).cellsAt0) (tsk_one _) (by simp only [maxLen]; omega) (by omega) (by exact Nat.le_trans hb.size (((((Ext.rfl'.al _).tr hb1).only (Nat.le_refl _) ho2).al _).size)) ?_; intro v3 w3 hown3 hg3 hnl3 hat3))
        have R := order_push hb.size HO.out ⟨HX.out.rank, HX.out.est⟩ htx hb1 HOWN1.out ho2 hown3 hg3 hat3
        clear hown3 hg3 hnl3 hat3
        go_wp2
        go_roundw
        case rel => exact ⟨k + 1, _, by omega, by go_num, by simp; omega, R.1, hb.trans R.2, by rw [HR.out, if_pos hd]; simp [Tsk.core]⟩
        case measure => simp [intOf]; omega
      · have hd : (x.list == list) = false := by simpa using hq
        go_wp2_with (refine wpList_load_cells rfl 36 (.tmp 13) rfl (ad.add (k * 7)) (Tsk.row x) rfl _ hcr Tryz.underlying36 rfl tsk_size ?_)
        go_roundw
        case rel => exact ⟨k + 1, l, by omega, by go_num, by omega, HO.out.ext (Ext.rfl'.al _), hb.al _, by rw [HR.out, if_neg (by simp [hd])]⟩
        case measure => simp [intOf]; omega
    · have HR := Lib.hid (show (s.tasks.filter fun t => t.list == list).map Tsk.core = l.map Tsk.core by rw [hR, List.drop_eq_nil_of_le (by omega)]; simp)
      clear hR hO
      go_wp2_with (go_at_call 61; refine (sortOwn_any 62 #[] ordCf w.heap.size u5 l _ ordCf_weak enters_order1 (fun g _ x y w' _ => order1_any x y w') HO.out (by omega)).mono ?_; rintro e w1 ⟨rfl, l', hO1, hperm, hsd, hg1⟩)
      go_ret
      refine ⟨_, l', rfl, hO1, Below.grown hb hg1 hb.size (fun q hq => (own_lt HO.out.row hq).1), ?_, hsd⟩
      rw [HR.out]
      exact hperm.map _
end Go.Proofs.YthhmbijblpjfpaaGreat
