/- task.Canon: lists and tasks made single by Id, in order of their Ids. -/
import Derived.Test.YthhmbijblpjfpaaGreatSep
import Derived.Test.YthhmbijblpjfpaaGreatAppT
import Derived.Test.YthhmbijblpjfpaaGreatMapId
import Derived.Test.YthhmbijblpjfpaaGreatDetG
import Derived.Test.YthhmbijblpjfpaaGreatSortFn
namespace Go.Proofs.YthhmbijblpjfpaaGreat
open Go.RowKit

section
variable {P : Program}
theorem wpList_load_one {ops : Array Oper} {rest : List Oper} {o : Oper} {a : Act} {w : World} {Q : Exit → Act → World → Prop} (hgd : o.guard = none) (ty : TypeId) (x : Operand) (ho : o.op = .load ty x) (ad : Addr) (u : Value) (hx : a.eval x = .pointer (some ad))
    (d : TypeDesc) (hc : w.cell? ad = some u) (hu : P.underlying ty = some d) (hd : (match d with | .struct _ | .array _ _ => true | _ => false) = false) (h : wpList P ops Q rest (a.put o.dst u) w) : wpList P ops Q (o :: rest) a w :=
  wpList_plain hgd fun K hK => by
    unfold Oper.wp
    rw [run_load_cell ty x ho ad u hx d hc hu hd]
    exact hK _ _ h
end
theorem lsts_size : (Tryz.prog.info? 22).map (·.size) = some 1 := by kernel_rfl
theorem lst_one (x : Lst) : ∀ u ∈ Lst.row x, u.oneCell' = true := by intro u hu; simp [Lst.row] at hu; rcases hu with rfl | rfl <;> rfl
noncomputable def dedL : List Lst → List Lst → List Lst
  | acc, [] => acc
  | acc, l :: ls => dedL (if hasLst acc l.id then acc else acc ++ [l]) ls
noncomputable def dedT : List Tsk → List Tsk → List Tsk
  | acc, [] => acc
  | acc, t :: ts => dedT (if hasTsk acc t.id then acc else acc ++ [(canT t).core]) ts
theorem contains_has (i : Int) : ∀ l : List Tsk, (l.map Tsk.id).contains i = hasTsk (l.map Tsk.core) i
  | [] => by rw [hasTsk_eq]; rfl
  | t :: ts => by
    have ih := contains_has i ts
    rw [hasTsk_eq] at ih ⊢
    simp only [List.map_cons, List.contains_cons, List.any_cons, ih]
    congr 1
    show (i == t.id) = (t.id == i)
    rw [Bool.eq_iff_iff]
    simp only [beq_iff_eq]
    exact eq_comm
set_option maxRecDepth 100000 in
theorem enters_own (args : Array Value) (w : World) : Sem.run Tryz.prog (callFunc 97 args) w = .ok (.enter 97 args) w := by
  simp only [callFunc, go_sem, Tryz.func97]
  rfl
/-- what task.own gave -/
structure OwnGot (x t : Tsk) (W w' : World) : Prop where
  core : t.core = (canT x).core
  few : t.tags.length ≤ 1000
  row : w'.ownsRow W.heap.size 9 1 t.tagv t.tags.length (t.tags.map Value.string)
/-- what the append behind it left -/
def OwnPut (x t : Tsk) (base : Nat) (B : Option Addr) (d : Nat) (tl : List Tsk) (v : Value) (W w' : World) : Prop :=
  ∃ w2, Ext W w2 ∧ OwnGot x t W w2 ∧ w'.ownsRow base 36 7 v (tl.length + 1) (tl.flatMap Tsk.row ++ Tsk.row t) ∧
    (w2.alloc (.cells (Tsk.row t).toArray 36)).grownBy w' (Value.slice B tl.length d).ownBlock ∧
    (v.ownBlock = (Value.slice B tl.length d).ownBlock ∨ v.ownBlock = some (w2.alloc (.cells (Tsk.row t).toArray 36)).heap.size)


theorem sortLst_own {base : Nat} {v : Value} (l : List Lst) (w : World) (h : w.ownsRow base 50 2 v l.length (l.flatMap Lst.row)) (hn : l.length ≤ 1000000) :
    Calls Tryz.prog 98 #[v, .func (.func 99) #[] #[]] w fun e w' => e = .returned (.tuple #[]) ∧ ∃ l' : List Lst, l'.Perm l ∧ Sd (ltOf fun x y => cmpI x.id y.id) l' 0 l'.length ∧
      w'.ownsRow base 50 2 v l'.length (l'.flatMap Lst.row) ∧ w.grownBy w' v.ownBlock := by
  rcases own_form h with ⟨rfl, hz, _⟩ | ⟨g, cap, rfl, _, _, _, rest, hb⟩
  · have hl : l = [] := List.eq_nil_of_length_eq_zero hz
    subst hl
    refine (sortLst_none 0 _ w).mono ?_
    rintro e w' ⟨rfl, rfl⟩
    exact ⟨rfl, [], .refl _, fun i j _ _ hj => absurd hj (by simp), World.ownsRow_nil _ _ _ _, rfl, rfl, rfl, Nat.le_refl _, fun _ _ _ => rfl⟩
  · refine (sortLst_any g cap l rest w hb hn).mono ?_
    rintro e w' ⟨rfl, l', hp, hs, hb', hg'⟩
    refine ⟨rfl, l', hp, hs, ?_, hg'⟩
    rw [hp.length_eq]
    exact own_of_blk h hb hb' (by rw [flat_len Lst.row 2 (fun _ => rfl), flat_len Lst.row 2 (fun _ => rfl), hp.length_eq])
theorem sortTsk_own {base : Nat} {v : Value} (l : List Tsk) (w : World) (h : OwnR w base v l) (hn : l.length ≤ 1000000) :
    Calls Tryz.prog 100 #[v, .func (.func 101) #[] #[]] w fun e w' => e = .returned (.tuple #[]) ∧ ∃ l' : List Tsk, l'.Perm l ∧ Sd (ltOf fun x y => cmpI x.id y.id) l' 0 l'.length ∧
      OwnR w' base v l' ∧ w.grownBy w' v.ownBlock := by
  rcases own_form h.row with ⟨rfl, hz, _⟩ | ⟨g, cap, rfl, _, _, _, rest, hb⟩
  · have hl : l = [] := List.eq_nil_of_length_eq_zero hz
    subst hl
    refine (sortTsk_none 0 _ w).mono ?_
    rintro e w' ⟨rfl, rfl⟩
    exact ⟨rfl, [], .refl _, fun i j _ _ hj => absurd hj (by simp), OwnR.nil _ _, rfl, rfl, rfl, Nat.le_refl _, fun _ _ _ => rfl⟩
  · refine (sortTsk_any g cap l rest w hb hn).mono ?_
    rintro e w' ⟨rfl, l', hp, hs, hb', hg'⟩
    refine ⟨rfl, l', hp, hs, h.turned hp ?_ hg', hg'⟩
    rw [hp.length_eq]
    exact own_of_blk h.row hb hb' (by rw [flat_len Tsk.row 7 (fun _ => rfl), flat_len Tsk.row 7 (fun _ => rfl), hp.length_eq])

set_option maxHeartbeats 1000000 in
set_option maxRecDepth 100000 in
theorem canon_any' (s : Sta) (w : World) (hs : s.ok w) (hl : s.lists.length ≤ 1000) (hn : s.tasks.length ≤ 1000) (ht : ∀ t ∈ s.tasks, t.tags.length ≤ 1000) :
    Calls Tryz.prog 58 #[s.val] w fun e w' => ∃ x : Sta, e = .returned x.val ∧ OwnS w' w.heap.size x ∧ Ext w w' ∧ x.lists.Perm (dedL [] s.lists) ∧ Sd (ltOf fun x y => cmpI x.id y.id) x.lists 0 x.lists.length ∧
      (x.tasks.map Tsk.core).Perm (dedT [] s.tasks) ∧ Sd (ltOf fun x y => cmpI x.id y.id) x.tasks 0 x.tasks.length := by
  obtain ⟨i0, hi0, hy0, hy1, hy2⟩ := info_parts tsk_info
  obtain ⟨j0, hj0, hx0, hx1, hx2⟩ := info_parts lst_info
  have hsf := store_float
  have hmm := @run_makeMap Tryz.prog
  have HS := Lib.hid hs
  have HT := Lib.hid ht
  clear hs ht
  go_enter Tryz.func58, Tryz.ntmps58
  go_wp2
  go_step3
  go_wp2
  go_step3
  go_wp2_with fail
  go_loopw [14] (fun i wr => ∃ (k : Nat) (acc : List Lst) (A : Option Addr) (c : Nat), k ≤ s.lists.length ∧ i = .int .i64 k ∧ acc.length ≤ k ∧
      wr.ownsRow (w.heap.size + 3) 50 2 (.slice A acc.length c) acc.length (acc.flatMap Lst.row) ∧
      Blk wr w.heap.size 25 [.slice s.lA s.lists.length s.lC, .slice s.tA s.tasks.length s.tC] ∧
      Blk wr (w.heap.size + 1) 25 [.slice none 0 0, .slice none 0 0] ∧
      Blk wr (w.heap.size + 2) 25 [.slice A acc.length c, .slice none 0 0] ∧ Ext w wr ∧
      dedL [] s.lists = dedL acc (s.lists.drop k)) (fun i _ => s.lists.length - (intOf i).toNat)
  case atStart =>
    refine ⟨0, [], none, 0, Nat.zero_le _, rfl, Nat.le_refl _, World.ownsRow_nil _ _ _ _, ?_, ?_, ?_, ((Ext.rfl'.al _).al _).al _, rfl⟩
    · exact ((Blk.new w _ _).al _).al _
    · exact (Blk.new1 w _ _ _).al _
    · have := Blk.new ((w.alloc (.cells #[.slice s.lA s.lists.length s.lC, .slice s.tA s.tasks.length s.tC] 25)).alloc (.cells #[.slice none 0 0, .slice none 0 0] 25)) 25 [.slice none 0 0, .slice none 0 0]
      simpa using this
  case round =>
    obtain ⟨k, acc, A, c0, hk, rfl, hak, hown, hb0, hb1, hb2, hb, hR⟩ := hrel
    have HO := Lib.hid hown
    have HB0 := Lib.hid hb0
    have HB1 := Lib.hid hb1
    have HB2 := Lib.hid hb2
    have hsz := hb2.lt
    by_cases hlt : k < s.lists.length
    · obtain ⟨ad, x, hA, hx, hc⟩ := HS.out.lists.at_ hlt
      rw [drop_cons hx] at hR
      have HR := Lib.hid hR
      have hcr := hb.cells hc
      obtain ⟨sl, st, lA, lC, tA, tC⟩ := s
      dsimp only at hA hlt hk hn hl
      subst hA
      have HL := fun W (h : Ext wr W) => Lib.hid (lists_any ⟨acc, [], A, c0, none, 0⟩ x.id W ⟨own_lsts (HO.out.kept (Srt.of_ext (g := 0) h |> fun s => ⟨s.os, s.tape, s.output, s.size, fun k hk _ => h.block k hk⟩ : wr.grownBy W none) (by cases (Value.slice A acc.length c0).ownBlock <;> simp)) (show acc.length ≤ 1000 by omega), ⟨by simp, RowsAt.nil _ _ _, by simp⟩⟩)
      clear hown hb0 hb1 hb2 hR hc hx
      obtain ⟨has, hhas⟩ : ∃ has, has = hasLst acc x.id := ⟨_, rfl⟩
      rw [← hhas] at HL
      have HH := Lib.hid hhas
      clear hhas
      go_wp2_with (first
        | (refine wpList_load_cells rfl 50 (.tmp 16) rfl (ad.add (k * 2)) (Lst.row x) rfl _ hcr Tryz.underlying50 rfl lst_size ?_)
        | (refine wpList_load_cells rfl 25 (.tmp 3) rfl ⟨w.heap.size + 2, 0, none⟩ [.slice A acc.length c0, .slice none 0 0] rfl _ (HB2.out.al _).cellsAt0 Tryz.underlying25 rfl sta_size ?_)
        | (go_at_call 66; refine (HL _ (by exact Ext.rfl'.al _)).out.mono ?_; rintro e w1 ⟨rfl, hw1⟩; have hwr1 : Ext wr w1 := (Ext.rfl'.al _).tr hw1)
        | (refine wpList_load_one rfl 22 (.tmp 26) rfl ⟨w.heap.size + 2, 0, none⟩ (.slice A acc.length c0) rfl _ ((((HB2.out.ext hwr1).al _).cell 0).trans rfl) Tryz.underlying22 rfl ?_)
        | (refine wpList_load_cells rfl 50 (.tmp 5) rfl ⟨wr.heap.size, 0, none⟩ (Lst.row x) rfl _ (((Blk.new wr _ (Lst.row x)).ext hw1).al _).cellsAt0 Tryz.underlying50 rfl lst_size ?_)
        | (at_builtin; refine wpList_append_own_at _ rfl (.tmp 27) (.tmp 29) 22 rfl (w.heap.size + 3) 50 j0 _ 2 24 Tryz.underlying22 hj0 hx0 hx1 hx2 rfl (by omega) (.slice A acc.length c0) acc.length (acc.flatMap Lst.row) rfl (by exact ((own_ext HO.out hwr1).alloc _).alloc _) ⟨w1.heap.size + 1, 0, none⟩ 1 1 (Lst.row x) rfl rfl (by exact (Blk.new1 w1 _ _ (Lst.row x)).cellsAt0) (lst_one _) (by simp only [maxLen]; omega) (by omega) (by have := hwr1.size; simp; omega) ?_; intro v2 w2 hown2 hg2 _ _; obtain ⟨A2, c2, rfl⟩ := own_shape hown2)
        | (refine wpList_store_cell rfl 22 (.tmp 31) (.tmp 30) rfl (w.heap.size + 2) 0 25 _ (.slice A2 (acc.length + 1) c2) rfl rfl rfl ((((HB2.out.ext hwr1).al _).al _).grown hg2 (own_ne HO.out (by omega))) (by simp) lsts_size rfl ?_; intro w3 hb3 ho3))
      · have hh : hasLst acc x.id = true := by rw [← HH.out]; assumption
        go_roundw
        case rel =>
          refine ⟨k + 1, acc, A, c0, by omega, by go_num, by omega, (own_ext HO.out hwr1).alloc _, (HB0.out.ext hwr1).al _, (HB1.out.ext hwr1).al _, (HB2.out.ext hwr1).al _, (hb.tr hwr1).al _, ?_⟩
          rw [HR.out]
          conv => lhs; unfold dedL
          rw [if_pos hh]
        case measure => simp [intOf]; omega
      · have hh : hasLst acc x.id = false := by rw [← HH.out]; assumption
        have e1 : Ext wr ((w1.alloc (.cells (Lst.row (findLst acc x.id)).toArray 50)).alloc (.cells (Lst.row x).toArray 50)) := (hwr1.al _).al _
        have hlen : (acc ++ [x]).length = acc.length + 1 := by simp
        have hrow : (acc ++ [x]).flatMap Lst.row = acc.flatMap Lst.row ++ Lst.row x := by simp
        go_roundw
        case rel =>
          refine ⟨k + 1, acc ++ [x], A2, c2, by omega, by go_num, by omega, ?_, ?_, ?_, ?_, ?_, ?_⟩
          · rw [hlen, hrow]
            exact own_only hown2 ho3 (by omega)
          · exact (((HB0.out.ext hwr1).al _).al _ |>.grown hg2 (own_ne HO.out (by omega))).only ho3 (by omega)
          · exact (((HB1.out.ext hwr1).al _).al _ |>.grown hg2 (own_ne HO.out (by omega))).only ho3 (by omega)
          · rw [hlen]; exact hb3
          · have e2 : Ext w w2 := Below.grown (hb.tr e1) hg2 (hb.tr e1).size (fun q hq => by have := (own_lt HO.out hq).1; omega)
            exact e2.only (by omega) ho3
          · rw [HR.out]
            conv => lhs; unfold dedL
            rw [if_neg (by simp [hh])]
        case measure => simp [intOf]; omega
    · have hke : s.lists.drop k = [] := List.drop_eq_nil_of_le (by omega)
      have HR := Lib.hid (show dedL [] s.lists = acc by rw [hR, hke]; rfl)
      clear hown hb0 hb1 hb2 hR hke
      go_wp2_with (refine wpList_load_one rfl 23 (.tmp 34) rfl ⟨w.heap.size, 1, none⟩ (.slice s.tA s.tasks.length s.tC) rfl _ (((HB0.out.al _).cell 1).trans rfl) Tryz.underlying23 rfl ?_)
      obtain ⟨W, hWW⟩ : ∃ W, W = wr.alloc (.map #[] 0) := ⟨_, rfl⟩
      have HO2 := Lib.hid (show W.ownsRow (w.heap.size + 3) 50 2 (.slice A acc.length c0) acc.length (acc.flatMap Lst.row) by rw [hWW]; exact own_ext HO.out (Ext.rfl'.al _))
      have HW0 := Lib.hid (show Blk W w.heap.size 25 [.slice s.lA s.lists.length s.lC, .slice s.tA s.tasks.length s.tC] by rw [hWW]; exact HB0.out.al _)
      have HW1 := Lib.hid (show Blk W (w.heap.size + 1) 25 [.slice none 0 0, .slice none 0 0] by rw [hWW]; exact HB1.out.al _)
      have HW2 := Lib.hid (show Blk W (w.heap.size + 2) 25 [.slice A acc.length c0, .slice none 0 0] by rw [hWW]; exact HB2.out.al _)
      obtain ⟨gm, hgm⟩ : ∃ gm, gm = wr.heap.size := ⟨_, rfl⟩
      have HM := Lib.hid (show MapAt W gm [] by rw [hgm, hWW]; exact ⟨#[], 0, (MapKept.heap_alloc wr _).1, rfl, by simp⟩)
      have hWe : Ext w W := by rw [hWW]; exact hb.al _
      have hzW : gm < W.heap.size := by rw [hgm, hWW]; simp
      have hzg : w.heap.size + 2 < gm := by rw [hgm]; exact HB2.out.lt
      have HLgm := Lib.hid (show (Value.slice A acc.length c0).ownBlock ≠ some gm from fun e => by have := (own_lt HO.out e).2; omega)
      rw [← hWW, ← hgm]
      clear hWW HO HB0 HB1 HB2 hgm hb
      go_loopw [37] (fun i ws => ∃ (j : Nat) (tl : List Tsk) (B : Option Addr) (d : Nat), j ≤ s.tasks.length ∧ i = .int .i64 j ∧ tl.length ≤ j ∧
          OwnR ws W.heap.size (.slice B tl.length d) tl ∧ MapAt ws gm (tl.map Tsk.id) ∧
          ws.ownsRow (w.heap.size + 3) 50 2 (.slice A acc.length c0) acc.length (acc.flatMap Lst.row) ∧
          Blk ws w.heap.size 25 [.slice s.lA s.lists.length s.lC, .slice s.tA s.tasks.length s.tC] ∧
          Blk ws (w.heap.size + 1) 25 [.slice none 0 0, .slice none 0 0] ∧
          Blk ws (w.heap.size + 2) 25 [.slice A acc.length c0, .slice B tl.length d] ∧ Ext w ws ∧ W.heap.size ≤ ws.heap.size ∧
          dedT [] s.tasks = dedT (tl.map Tsk.core) (s.tasks.drop j)) (fun i _ => s.tasks.length - (intOf i).toNat)
      case atStart => exact ⟨0, [], none, 0, Nat.zero_le _, rfl, Nat.le_refl _, OwnR.nil _ _, HM.out, HO2.out, HW0.out, HW1.out, HW2.out, hWe, Nat.le_refl _, rfl⟩
      case round =>
        obtain ⟨j, tl, B, d, hj, rfl, htj, hown, hmap, hlo, hb0, hb1, hb2, hb', hWs, hR2⟩ := hrel
        have HOT := Lib.hid hown
        have HMP := Lib.hid hmap
        have HLO := Lib.hid hlo
        have HC0 := Lib.hid hb0
        have HC1 := Lib.hid hb1
        have HC2 := Lib.hid hb2
        have hsz2 := hb2.lt
        by_cases hlt : j < s.tasks.length
        · obtain ⟨ad, x, hA, hx, hxo, hc⟩ := HS.out.tasks.at_ hlt
          rw [drop_cons hx] at hR2
          have HR2 := Lib.hid hR2
          have hcr := hb'.cells hc
          have HX := Lib.hid hxo
          have htx := HT.out x (List.mem_of_getElem? hx)
          obtain ⟨sl, st, lA, lC, tA, tC⟩ := s
          dsimp only at hA hlt hj hn hl hk
          subst hA
          clear hown hmap hlo hb0 hb1 hb2 hR2 hc hx hxo
          by_cases hq : (tl.map Tsk.id).contains x.id = true
          · have HQ := Lib.hid hq
            clear hq
            go_wp2_with (first
            | (refine wpList_load_cells rfl 36 (.tmp 39) rfl (ad.add (j * 7)) (Tsk.row x) rfl _ hcr Tryz.underlying36 rfl tsk_size ?_)
            | (refine wpList_lookup_ids rfl 145 (.tmp 41) (.tmp 43) rfl 26 4 Tryz.underlying145 Tryz.underlying26 Tryz.zeroValue4 gm (tl.map Tsk.id) x.id rfl rfl (HMP.out.ext (Ext.rfl'.al _)) ?_; rw [HQ.out]))
            go_roundw
            case rel =>
              refine ⟨j + 1, tl, B, d, by omega, by go_num, by omega, HOT.out.ext (Ext.rfl'.al _), HMP.out.ext (Ext.rfl'.al _), own_ext HLO.out (Ext.rfl'.al _), HC0.out.al _, HC1.out.al _, HC2.out.al _, hb'.al _, by simp; omega, ?_⟩
              rw [HR2.out]
              conv => lhs; unfold dedT
              rw [if_pos (by rw [← contains_has]; exact HQ.out)]
            case measure => simp [intOf]; omega
          · have HQ := Lib.hid (Bool.not_eq_true _ ▸ hq : (tl.map Tsk.id).contains x.id = false)
            clear hq
            go_wp2_with (first
            | (refine wpList_load_cells rfl 36 (.tmp 39) rfl (ad.add (j * 7)) (Tsk.row x) rfl _ hcr Tryz.underlying36 rfl tsk_size ?_)
            | (refine wpList_lookup_ids rfl 145 (.tmp 41) (.tmp 43) rfl 26 4 Tryz.underlying145 Tryz.underlying26 Tryz.zeroValue4 gm (tl.map Tsk.id) x.id rfl rfl (HMP.out.ext (Ext.rfl'.al _)) ?_; rw [HQ.out])
            | (refine wpList_update_ids rfl 145 (.tmp 46) (.tmp 48) (.const (.bool true)) rfl 26 4 Tryz.underlying145 Tryz.underlying26 gm (tl.map Tsk.id) x.id rfl rfl rfl (HMP.out.ext (Ext.rfl'.al _)) HQ.out ?_; intro w1 hm1 ho1))
            have hgw : wr.heap.size ≠ gm := by omega
            have e1w : Ext w w1 := (hb'.al (.cells (Tsk.row x).toArray 36)).only (by omega) ho1
            have HD2 := Lib.hid ((HC2.out.al (.cells (Tsk.row x).toArray 36)).only ho1 (by omega))
            have HDx := Lib.hid ((Blk.new wr 36 (Tsk.row x)).only ho1 hgw)
            have HOT1 := Lib.hid ((HOT.out.ext (Ext.rfl'.al (.cells (Tsk.row x).toArray 36))).only ho1 hzW)
            refine wp_region_ghosts (Γ := Tsk × Nat × Value) (by kernel_rfl) [3, 4, 5, 7]
              (fun c => [.pointer (some ⟨w.heap.size + 2, 1, none⟩), .slice B tl.length d, .agg (Tsk.row x).toArray, c.1.val, .slice (some ⟨c.2.1, 0, none⟩) 1 1, c.2.2, .pointer (some ⟨w.heap.size + 2, 1, none⟩), undef])
              (fun c b w' => match b with
                | [b3, b4, b5, b7] => if b7 = true then ∃ w3, OwnPut x c.1 W.heap.size B d tl c.2.2 w1 w3 ∧ Blk w' (w.heap.size + 2) 25 [.slice A acc.length c0, c.2.2] ∧ Only (w.heap.size + 2) w3 w'
                    else if b5 = true then OwnPut x c.1 W.heap.size B d tl c.2.2 w1 w'
                    else if b4 = true then ∃ w2, Ext w1 w2 ∧ OwnGot x c.1 w1 w2 ∧ c.2.1 = w2.heap.size ∧ w' = w2.alloc (.cells (Tsk.row c.1).toArray 36)
                    else if b3 = true then Ext w1 w' ∧ OwnGot x c.1 w1 w'
                    else Ext w1 w'
                | _ => False)
              (by kernel_rfl) (by kernel_rfl) (noTsk, 0, undef) Ext.rfl'.dr ?_
            intro c1
            refine stepG_p rfl rfl (fun w => by go_simp) ?_
            simp only [Nat.reduceAdd, Act.put, List.setIfInBounds_toArray, List.set_cons_succ, List.set_cons_zero, List.getD_cons_zero, List.getD_cons_succ]
            refine stepG_r rfl rfl (fun L w' hV hn' hcl => by
              have h5 : L 5 = false := hn' 5 (by kernel_rfl)
              have h7 : L 7 = false := hn' 7 (by kernel_rfl)
              have he : Ext w1 w' := by
                simp only [List.map, h5, h7, Bool.false_eq_true, if_false] at hV
                split at hV
                · obtain ⟨w2, he, _, _, rfl⟩ := hV
                  exact he.al _
                · split at hV
                  · exact hV.1
                  · exact hV
              exact run_load_cell 23 _ rfl ⟨w.heap.size + 2, 1, none⟩ _ rfl _ (((HD2.out.ext he).cell 1).trans rfl) Tryz.underlying23 rfl) ?_
            simp only [Nat.reduceAdd, Act.put, List.setIfInBounds_toArray, List.set_cons_succ, List.set_cons_zero, List.getD_cons_zero, List.getD_cons_succ]
            refine stepG_r rfl rfl (fun L w' hV hn' hcl => by
              have h3 : L 3 = false := hn' 3 (by kernel_rfl)
              have h4 : L 4 = false := Bool.eq_false_iff.2 fun h => by rw [hcl 4 3 h (by kernel_rfl)] at h3; cases h3
              have h5 : L 5 = false := Bool.eq_false_iff.2 fun h => by rw [hcl 5 4 h (by kernel_rfl)] at h4; cases h4
              have h7 : L 7 = false := hn' 7 (by kernel_rfl)
              simp only [List.map, h3, h4, h5, h7, Bool.false_eq_true, if_false] at hV
              exact run_load_cells 36 _ rfl ⟨wr.heap.size, 0, none⟩ (Tsk.row x) rfl _ (HDx.out.ext hV).cellsAt0 Tryz.underlying36 rfl tsk_size) ?_
            simp only [Nat.reduceAdd, Act.put, List.setIfInBounds_toArray, List.set_cons_succ, List.set_cons_zero, List.getD_cons_zero, List.getD_cons_succ]
            refine ⟨fun L w' hV hi hd hn' hcl => ⟨rfl, fun v w2 => ∃ t : Tsk, v = t.val ∧ Ext w1 w2 ∧ OwnGot x t w1 w2, ?_, ?_⟩, ?_⟩
            · have h4 := hn' 4 (by kernel_rfl)
              have h5 : L 5 = false := Bool.eq_false_iff.2 fun h => by rw [hcl 5 4 h (by kernel_rfl)] at h4; cases h4
              have h7 := hn' 7 (by kernel_rfl)
              simp only [WofG, List.map, hi, h4, h5, h7, Bool.false_eq_true, if_false] at hV
              refine wp_call_fn _ _ _ rfl 97 #[] #[x.val] rfl (by simp only [List.map_toArray, List.map_cons, List.map_nil]; rfl) enters_own ?_
              refine (own_any x w' (HX.out.ext (e1w.tr hV)) htx).mono ?_
              rintro e w2 ⟨t, rfl, hcore, hfew, hrow, he⟩
              exact ⟨_, rfl, _, rfl, t, rfl, hV.tr he, ⟨hcore, hfew, own_base hrow hV.size⟩⟩
            · have h4 := hn' 4 (by kernel_rfl)
              have h5 : L 5 = false := Bool.eq_false_iff.2 fun h => by rw [hcl 5 4 h (by kernel_rfl)] at h4; cases h4
              have h7 := hn' 7 (by kernel_rfl)
              rintro v w2 ⟨t, rfl, he, hg⟩
              refine ⟨(t, 0, undef), fun j hj => ?_, rfl, ?_⟩
              · match j, hj with
                | 0, _ => rfl
                | 1, _ => rfl
                | 2, _ => rfl
                | 3, hj => rw [hi] at hj; cases hj
                | 4, hj => rw [h4] at hj; cases hj
                | 5, hj => rw [h5] at hj; cases hj
                | 6, _ => rfl
                | 7, hj => rw [h7] at hj; cases hj
                | j + 8, _ => rfl
              · simp only [WofG, List.map, h4, h5, h7, Bool.false_eq_true, if_false]
                exact ⟨he, hg⟩
            simp only [Nat.reduceAdd, Act.put, List.setIfInBounds_toArray, List.set_cons_succ, List.set_cons_zero, List.getD_cons_zero, List.getD_cons_succ, ValG]
            -- step 4: a block of its own for the task
            refine ⟨fun L w' hV hi hd hn' hcl => ⟨rfl, fun v w2 => v = .slice (some ⟨w'.heap.size, 0, none⟩) 1 1 ∧ w2 = w'.alloc (.cells (Tsk.row c1.1).toArray 36), ?_, ?_⟩, ?_⟩
            · refine wp_of_run (v := .slice (some ⟨w'.heap.size, 0, none⟩) 1 1) (w' := w'.alloc (.cells (Tsk.row c1.1).toArray 36)) (by go_simp) ⟨_, rfl, rfl, rfl⟩
            · have h3 := hd 3 (by kernel_rfl)
              have h5 := hn' 5 (by kernel_rfl)
              have h7 := hn' 7 (by kernel_rfl)
              simp only [WofG, List.map, hi, h3, h5, h7, Bool.false_eq_true, if_false, if_true] at hV
              rintro v w2 ⟨rfl, rfl⟩
              refine ⟨(c1.1, w'.heap.size, undef), fun j hj => ?_, rfl, ?_⟩
              · match j, hj with
                | 0, _ => rfl
                | 1, _ => rfl
                | 2, _ => rfl
                | 3, hj => rfl
                | 4, hj => rw [hi] at hj; cases hj
                | 5, hj => rw [h5] at hj; cases hj
                | 6, hj => rfl
                | 7, hj => rw [h7] at hj; cases hj
                | j + 8, _ => rfl
              · simp only [WofG, List.map, h5, h7, Bool.false_eq_true, if_false]
                exact ⟨w', hV.1, hV.2, rfl, rfl⟩
            simp only [Nat.reduceAdd, Act.put, List.setIfInBounds_toArray, List.set_cons_succ, List.set_cons_zero, List.getD_cons_zero, List.getD_cons_succ, ValG]
            -- step 5: the append
            refine ⟨fun L w' hV hi hd hn' hcl => ⟨rfl, fun v w3 => OwnPut x c1.1 W.heap.size B d tl v w1 w3, ?_, ?_⟩, ?_⟩
            · have h4 := hd 4 (by kernel_rfl)
              have h7 := hn' 7 (by kernel_rfl)
              simp only [WofG, List.map, hi, h4, h7, Bool.false_eq_true, if_false, if_true] at hV
              obtain ⟨w2, he2, hg2, hb2, rfl⟩ := hV
              refine wp_append_own_at (.tmp 50) (.tmp 53) 23 rfl W.heap.size 36 i0 _ 7 80 Tryz.underlying23 hi0 hy0 hy1 hy2 rfl (by omega) (.slice B tl.length d) tl.length (tl.flatMap Tsk.row) rfl (HOT1.out.ext (he2.al _)).row ⟨c1.2.1, 0, none⟩ 1 1 (Tsk.row c1.1) rfl rfl (by rw [hb2]; exact (Blk.new w2 _ (Tsk.row c1.1)).cellsAt0) (tsk_one _) (by simp only [maxLen]; omega) (by omega) (by have := he2.size; have := ho1.size; simp at *; omega) ?_
              intro v' w3 h1 h2 h3
              exact ⟨v', rfl, w2, he2, hg2, h1, h2, h3⟩
            · have h7 := hn' 7 (by kernel_rfl)
              rintro v w3 hp
              refine ⟨(c1.1, c1.2.1, v), fun j hj => ?_, rfl, ?_⟩
              · match j, hj with
                | 0, _ => rfl
                | 1, _ => rfl
                | 2, _ => rfl
                | 3, hj => rfl
                | 4, hj => rfl
                | 5, hj => rw [hi] at hj; cases hj
                | 6, hj => rfl
                | 7, hj => rw [h7] at hj; cases hj
                | j + 8, _ => rfl
              · simp only [WofG, List.map, h7, Bool.false_eq_true, if_false]
                exact hp
            simp only [Nat.reduceAdd, Act.put, List.setIfInBounds_toArray, List.set_cons_succ, List.set_cons_zero, List.getD_cons_zero, List.getD_cons_succ, ValG]
            refine stepG_p rfl rfl (fun w => by go_simp) ?_
            simp only [Nat.reduceAdd, Act.put, List.setIfInBounds_toArray, List.set_cons_succ, List.set_cons_zero, List.getD_cons_zero, List.getD_cons_succ, ValG]
            -- step 7: the store
            refine ⟨fun L w' hV hi hd hn' hcl => ⟨rfl, fun v w4 => v = undef ∧ ∃ w3, OwnPut x c1.1 W.heap.size B d tl c1.2.2 w1 w3 ∧ Blk w4 (w.heap.size + 2) 25 [.slice A acc.length c0, c1.2.2] ∧ Only (w.heap.size + 2) w3 w4, ?_, ?_⟩, ?_⟩
            · have h5 := hd 5 (by kernel_rfl)
              simp only [WofG, List.map, hi, h5, Bool.false_eq_true, if_false, if_true] at hV
              have hV' := hV
              obtain ⟨w2, he2, hg2, hr3, hgr3, hat3⟩ := hV
              obtain ⟨A2, c2, hv2⟩ := own_shape hr3
              have hB3 : Blk w' (w.heap.size + 2) 25 [.slice A acc.length c0, .slice B tl.length d] := ((HD2.out.ext he2).al _).grown hgr3 (own_ne HOT1.out.row (by omega))
              refine wp_store_cell 23 (.tmp 55) (.tmp 54) rfl (w.heap.size + 2) 1 25 _ c1.2.2 rfl rfl (by rw [hv2]; rfl) hB3 (by simp) (by kernel_rfl) (by rw [hv2]; rfl) ?_
              intro w4 hb4 ho4
              exact ⟨undef, rfl, rfl, w', hV', hb4, ho4⟩
            · rintro v w4 ⟨rfl, hp⟩
              refine ⟨c1, fun j hj => rfl, rfl, ?_⟩
              simp only [WofG, List.map, if_true]
              exact hp
            intro W4 hV4
            simp only [List.map, if_true] at hV4
            obtain ⟨w3, ⟨w2, he2, hg2, hr3, hgr3, hat3⟩, hb4, ho4⟩ := hV4
            obtain ⟨t1, g1, v1⟩ := c1
            obtain ⟨A2, c2, rfl⟩ := own_shape hr3
            have hpush := HOT1.out.push (t := t1) (by have := ho1.size; simp at this; omega) (canT_ok ⟨HX.out.rank, HX.out.est⟩ hg2.core) hg2.few he2 hg2.row hr3 hgr3 hat3
            have hlw1 : wr.heap.size + 1 = w1.heap.size := by have := ho1.size; simp at this; omega
            have hne : ∀ g, g < W.heap.size → some g ≠ (Value.slice B tl.length d).ownBlock := fun g hg => own_ne HOT1.out.row hg
            have hB0 := ((((HC0.out.al (.cells (Tsk.row x).toArray 36)).only ho1 (by omega)).ext he2).al (.cells (Tsk.row t1).toArray 36)).grown hgr3 (hne _ (by omega))
            have hB1 := ((((HC1.out.al (.cells (Tsk.row x).toArray 36)).only ho1 (by omega)).ext he2).al (.cells (Tsk.row t1).toArray 36)).grown hgr3 (hne _ (by omega))
            have hM3 := ((hm1.ext he2).ext (Ext.rfl'.al (.cells (Tsk.row t1).toArray 36))).grown hgr3 (hne _ hzW)
            have hL0 : W.ownsRow (w.heap.size + 3) 50 2 (.slice A acc.length c0) acc.length (acc.flatMap Lst.row) := HO2.out
            have hlb : (Value.slice A acc.length c0).ownBlock = none ∨ (Value.slice A acc.length c0).ownBlock ≠ (Value.slice B tl.length d).ownBlock := by
              cases hq : (Value.slice A acc.length c0).ownBlock with
              | none => exact .inl rfl
              | some g => exact .inr (hne g (own_lt hL0 hq).2)
            have hlm : (Value.slice A acc.length c0).ownBlock = none ∨ (Value.slice A acc.length c0).ownBlock ≠ some gm := by
              cases hq : (Value.slice A acc.length c0).ownBlock with
              | none => exact .inl rfl
              | some g => exact .inr fun e => by injection e with e; subst e; exact HLgm.out hq
            have hLO1 := (own_ext HLO.out (Ext.rfl'.al (.cells (Tsk.row x).toArray 36))).kept (Srt.of_only ho1) hlm
            have hLO3 := ((own_ext hLO1 he2).alloc (.cells (Tsk.row t1).toArray 36)).kept hgr3 hlb
            have hE3 : Ext w w3 := Below.grown ((e1w.tr he2).al _) hgr3 (by have := (e1w.tr he2).size; simp; omega) (fun k hk => by have := (own_lt HOT1.out.row hk).1; have := hb'.size; omega)
            have hlen : (tl ++ [t1]).length = tl.length + 1 := by simp
            have hid : t1.id = x.id := by have := congrArg Tsk.id hg2.core; rw [canT_eq] at this; exact this
            go_wp2
            go_roundw
            case rel =>
              refine ⟨j + 1, tl ++ [t1], A2, c2, by omega, by go_num, by omega, ?_, ?_, own_only hLO3 ho4 (by omega), hB0.only ho4 (by omega), hB1.only ho4 (by omega), by rw [hlen]; exact hb4, hE3.only (by omega) ho4, ?_, ?_⟩
              · rw [hlen]
                exact hpush.1.only ho4 (by omega)
              · have := hM3.only ho4 (by omega)
                simpa [hid] using this
              · have := ho4.size
                have := hgr3.size
                have := he2.size
                simp at *
                omega
              · rw [HR2.out]
                conv => lhs; unfold dedT
                rw [if_neg (by rw [← contains_has, HQ.out]; exact Bool.false_ne_true)]
                simp [hg2.core]
            case measure => simp [intOf]; omega
        · have HD := Lib.hid (show dedT [] s.tasks = tl.map Tsk.core by rw [hR2, List.drop_eq_nil_of_le (by omega)]; rfl)
          clear hown hmap hlo hb0 hb1 hb2 hR2
          have hal : acc.length ≤ 1000 := by omega
          have htl : tl.length ≤ 1000 := by omega
          have hoff : ∀ u : Value, (∀ g, u.ownBlock = some g → W.heap.size ≤ g) → Off u (.slice A acc.length c0) := by
            intro u hu
            cases hq : u.ownBlock with
            | none => exact .inl hq
            | some g =>
              refine .inr fun e => ?_
              rw [hq] at e
              have := hu g hq
              have := (own_lt HO2.out e.symm).2
              omega
          have hoR : Off (.slice B tl.length d) (.slice A acc.length c0) := hoff _ fun g hg => (own_lt HOT.out.row hg).1
          have hoT : ∀ t ∈ tl, Off t.tagv (.slice A acc.length c0) := fun t ht => hoff _ fun g hg => (own_lt (HOT.out.tags t ht) hg).1
          have HOR := Lib.hid hoR
          have HOTS := Lib.hid hoT
          clear hoff hoR hoT
          go_wp2_with (first
            | (refine wpList_load_one rfl 22 (.tmp 57) rfl ⟨w.heap.size + 2, 0, none⟩ (.slice A acc.length c0) rfl _ ((HC2.out.cell 0).trans rfl) Tryz.underlying22 rfl ?_)
            | (go_at_call 98; refine (sortLst_own acc _ HLO.out (by omega)).mono ?_; rintro e w1 ⟨rfl, l1, hp1, hs1, ho1, hg1⟩; have HP1 := Lib.hid hp1; have HS1 := Lib.hid hs1; have HO1 := Lib.hid ho1; have HG1 := Lib.hid hg1; have HC21 := Lib.hid (HC2.out.grown hg1 (own_ne HLO.out (by omega))); have HC11 := Lib.hid (HC1.out.grown hg1 (own_ne HLO.out (by omega))); have HOT1 := Lib.hid (HOT.out.grown hg1 HOR.out HOTS.out); clear hp1 hs1 ho1 hg1)
            | (refine wpList_load_one rfl 23 (.tmp 60) rfl ⟨w.heap.size + 2, 1, none⟩ (.slice B tl.length d) rfl _ ((HC21.out.cell 1).trans rfl) Tryz.underlying23 rfl ?_)
            | (go_at_call 100; refine (sortTsk_own tl _ HOT1.out (by omega)).mono ?_; rintro e w2 ⟨rfl, l2, hp2, hs2, ho2, hg2⟩; have HP2 := Lib.hid hp2; have HS2 := Lib.hid hs2; have HO2T := Lib.hid ho2; have HG2 := Lib.hid hg2; have HC22 := Lib.hid (HC21.out.grown hg2 (own_ne HOT1.out.row (by omega))); have HC12 := Lib.hid (HC11.out.grown hg2 (own_ne HOT1.out.row (by omega))); clear hp2 hs2 ho2 hg2)
            | (refine wpList_load_cells rfl 25 (.tmp 3) rfl ⟨w.heap.size + 2, 0, none⟩ [.slice A acc.length c0, .slice B tl.length d] rfl _ HC22.out.cellsAt0 Tryz.underlying25 rfl sta_size ?_)
            | (refine wpList_store_agg rfl 25 (.tmp 2) (.tmp 63) rfl _ 0 25 _ [.slice A acc.length c0, .slice B tl.length d] rfl rfl HC12.out (by simp) sta_size (by simp [Value.oneCell']) ?_; intro w3 hb3 ho3))
          have hl1 : l1.length = acc.length := HP1.out.length_eq
          have hl2 : l2.length = tl.length := HP2.out.length_eq
          rw [Exit.noGoto_ret]
          refine bodyPost_cell1 (cs := [.slice A acc.length c0, .slice B tl.length d]) rfl rfl (by simpa [splice] using hb3) Tryz.underlying25 rfl sta_size rfl ⟨⟨l1, l2, A, c0, B, d⟩, ?_, ?_, ?_, ?_, HS1.out, ?_, HS2.out⟩
          · rw [Sta.val, hl1, hl2]
          · have hLs : w3.ownsRow (w.heap.size + 3) 50 2 (.slice A acc.length c0) l1.length (l1.flatMap Lst.row) := own_only (HO1.out.kept HG2.out HOR.out.symm) ho3 (by omega)
            have hTs : OwnR w3 W.heap.size (.slice B tl.length d) l2 := HO2T.out.only ho3 (by omega)
            refine ⟨?_, ?_, ?_, ?_, (by show l1.length ≤ 1000; omega), (by show l2.length ≤ 1000; omega)⟩
            · show w3.ownsRow _ _ 2 (.slice A l1.length c0) _ _
              rw [hl1]
              rw [hl1] at hLs
              exact own_base hLs (by omega)
            · show OwnR w3 _ (.slice B l2.length d) l2
              rw [hl2]
              exact hTs.base (by omega)
            · show Off (.slice A l1.length c0) (.slice B l2.length d)
              rw [hl1, hl2]
              exact HOR.out.symm
            · intro t ht
              show Off t.tagv (.slice A l1.length c0)
              rw [hl1]
              exact HOTS.out t (HP2.out.subset ht)
          · have e1 : Ext w w1 := Below.grown hb' HG1.out hb'.size (fun q hq => by have := (own_lt HLO.out hq).1; omega)
            have e2 : Ext w w2 := Below.grown e1 HG2.out e1.size (fun q hq => by have := (own_lt HOT1.out.row hq).1; omega)
            exact e2.only (by omega) ho3
          · rw [HR.out]
            exact HP1.out
          · rw [HD.out]
            exact HP2.out.map _
end Go.Proofs.YthhmbijblpjfpaaGreat
