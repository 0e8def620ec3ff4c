/- The walk of factotumlaw10.RankSpreads. -/
import Derived.Test.YthhmbijblpjfpaaGreatAwake
import Derived.Test.YthhmbijblpjfpaaGreatSprLaw
import Derived.Test.YthhmbijblpjfpaaGreatDetG
import Derived.Deep.QuietTactic
import Derived.BigQuiet
namespace Go.Proofs.YthhmbijblpjfpaaGreat
open Go.RowKit

theorem textsOk_few {l : List ByteArray} (h : textsOk l = true) : l.length ≤ 8 := by
  rw [textsOk_eq] at h
  simp at h
  exact h.2
theorem lightOk_few {l : List Lst} {ts : List Tsk} (h : lightOk l ts = true) : l.length ≤ 25 ∧ ts.length ≤ 70 ∧ ∀ t ∈ ts, t.tags.length ≤ 1000 := by
  rw [lightOk_eq] at h
  simp at h
  refine ⟨h.1.1.1, h.1.1.2, fun t ht => ?_⟩
  have := textsOk_few (h.2 t ht).2
  omega
set_option maxRecDepth 100000 in
theorem enters_order (args : Array Value) (w : World) : Sem.run Tryz.prog (callFunc 19 args) w = .ok (.enter 19 args) w := by
  simp only [callFunc, go_sem, Tryz.func19]
  rfl
theorem Ext.drN {a b : World} (h : Ext a b) (n : Nat) : Ext a (b.drewN n) := ⟨h.os, h.tape, h.output, h.size, h.block⟩
/-- what rank.Order gave -/
structure OrdGot (s : Sta) (list : Int) (base : Nat) (c : Value × List Tsk) (w : World) : Prop where
  own : OwnT w base c.1 c.2
  perm : (c.2.map Tsk.core).Perm ((s.tasks.filter fun t => t.list == list).map Tsk.core)
  sd : Sd (ltc ordCf) c.2 0 c.2.length
theorem OrdGot.ext {s : Sta} {list : Int} {base : Nat} {c : Value × List Tsk} {w w' : World} (h : OrdGot s list base c w) (e : Ext w w') : OrdGot s list base c w' := ⟨h.own.ext e, h.perm, h.sd⟩
theorem OwnT.base {w : World} {b b' : Nat} {v : Value} {l : List Tsk} (h : OwnT w b v l) (hb : b' ≤ b) : OwnT w b' v l := ⟨own_base h.row hb, h.oks, h.apart⟩
set_option maxHeartbeats 400000 in
set_option maxRecDepth 100000 in
theorem spreads_any (s : Sta) (list after : Int) (w : World) (hs : s.ok w) :
    Calls Tryz.prog 3 #[s.val, .int .u64 list, .int .u64 after] w fun e w' => e = .returned (.bool true) ∧ Ext w w' := by
  have HS := Lib.hid hs
  have hsf := store_float
  clear hs
  by_cases hL : lightOk s.lists s.tasks = false
  · have HL := Lib.hid hL
    clear hL
    go_enter Tryz.func3, Tryz.ntmps3
    go_wp2_with (first
      | (go_at_call 15; refine (awake_any _).mono ?_; rintro e w1 ⟨rfl, hb1⟩; obtain ⟨hrc1, hrf1⟩ := Ext.rules hb1; have hz1 : w.heap.size < w1.heap.size := (Nat.lt_of_lt_of_le (by simp) hb1.size); have hbw1 : Ext w w1 := (Ext.rfl'.al _).tr hb1)
      | (go_at_call 16; refine (light_any s _ (HS.out.ext hbw1)).mono ?_; rintro e w2 ⟨rfl, hb2⟩; rw [HL.out]))
    go_ret
    refine ⟨rfl, hbw1.tr hb2⟩
  rw [Bool.not_eq_false] at hL
  have HL := Lib.hid hL
  clear hL
  by_cases hR : rightErr s.lists s.tasks ≠ 0
  · have hd : (rightErr s.lists s.tasks != 0) = true := by simpa using hR
    have HD := Lib.hid hd
    obtain ⟨re, hre⟩ : ∃ re, re = rightErr s.lists s.tasks := ⟨_, rfl⟩
    rw [← hre] at hd
    have HRE := Lib.hid hre
    clear hR hre
    go_enter Tryz.func3, Tryz.ntmps3
    go_wp2_with (first
      | (go_at_call 15; refine (awake_any _).mono ?_; rintro e w1 ⟨rfl, hb1⟩; obtain ⟨hrc1, hrf1⟩ := Ext.rules hb1; have hz1 : w.heap.size < w1.heap.size := (Nat.lt_of_lt_of_le (by simp) hb1.size); have hbw1 : Ext w w1 := (Ext.rfl'.al _).tr hb1)
      | (go_at_call 16; refine (light_any s _ (HS.out.ext hbw1)).mono ?_; rintro e w2 ⟨rfl, hb2⟩; rw [HL.out]; obtain ⟨hrc2, hrf2⟩ := Ext.rules hb2; have hz2 : w.heap.size < w2.heap.size := (Nat.lt_of_lt_of_le hz1 hb2.size); have hbw2 : Ext w w2 := hbw1.tr hb2)
      | (go_at_call 17; refine (right_any s _ (HS.out.ext hbw2)).mono ?_; rintro e w3 ⟨rfl, hb3⟩; rw [← HRE.out]))
    go_ret
    refine ⟨rfl, hbw2.tr hb3⟩
  have HR := Lib.hid (show rightErr s.lists s.tasks = 0 by simpa using hR)
  obtain ⟨f1, f2, f3⟩ := lightOk_few HL.out
  have HF := Lib.hid f3
  clear hR f3
  go_enter Tryz.func3, Tryz.ntmps3
  go_wp2_with (first
    | (go_at_call 15; refine (awake_any _).mono ?_; rintro e w1 ⟨rfl, hb1⟩; obtain ⟨hrc1, hrf1⟩ := Ext.rules hb1; have hz1 : w.heap.size < w1.heap.size := (Nat.lt_of_lt_of_le (by simp) hb1.size); have hbw1 : Ext w w1 := (Ext.rfl'.al _).tr hb1)
    | (go_at_call 16; refine (light_any s _ (HS.out.ext hbw1)).mono ?_; rintro e w2 ⟨rfl, hb2⟩; rw [HL.out]; obtain ⟨hrc2, hrf2⟩ := Ext.rules hb2; have hz2 : w.heap.size < w2.heap.size := (Nat.lt_of_lt_of_le hz1 hb2.size); have hbw2 : Ext w w2 := hbw1.tr hb2)
    | (go_at_call 17; refine (right_any s _ (HS.out.ext hbw2)).mono ?_; rintro e w3 ⟨rfl, hb3⟩; rw [HR.out]; obtain ⟨hrc3, hrf3⟩ := Ext.rules hb3; have hz3 : w.heap.size < w3.heap.size := (Nat.lt_of_lt_of_le hz2 hb3.size); have hbw3 : Ext w w3 := hbw2.tr hb3)
    | (go_at_call 18; refine (spread_any s list _ (HS.out.ext hbw3) (by omega) (by omega) HF.out).mono ?_; rintro e w4 ⟨x0, x, l, rfl, hx, hb4, ⟨p1, p2, p3, p4⟩, hp, hsd, hxl, hxt⟩; have HXL := Lib.hid hxl; have HXT := Lib.hid hxt; clear hxl hxt))
  have e4 : Ext w w4 := hbw3.tr hb4
  have hw5 : w.heap.size < w4.heap.size := Nat.lt_of_lt_of_le hz3 hb4.size
  obtain ⟨W, hWW⟩ : ∃ W, W = w4.alloc (.cells #[.slice x.lA x.lists.length x.lC, .slice x.tA x.tasks.length x.tC] 25) := ⟨_, rfl⟩
  have hBs : Blk W w.heap.size 25 [.slice s.lA s.lists.length s.lC, .slice s.tA s.tasks.length s.tC] := by
    rw [hWW]
    exact ((((Blk.new w 25 [.slice s.lA s.lists.length s.lC, .slice s.tA s.tasks.length s.tC]).ext (hb1.tr (hb2.tr hb3))).ext hb4)).al _
  have hBx : Blk W w4.heap.size 25 [.slice x.lA x.lists.length x.lC, .slice x.tA x.tasks.length x.tC] := by
    rw [hWW]; exact Blk.new w4 _ _
  have HBs := Lib.hid hBs
  have HBx := Lib.hid hBx
  have eW : Ext w W := by rw [hWW]; exact e4.al _
  have HSW := Lib.hid (HS.out.ext eW)
  have HX := Lib.hid (show OwnS W w3.heap.size x by rw [hWW]; exact hx.ext (Ext.rfl'.al _))
  have hxn := hx.nt
  change Code.wp _ _ _ _ (w4.alloc (.cells #[.slice x.lA x.lists.length x.lC, .slice x.tA x.tasks.length x.tC] 25))
  rw [← hWW]
  have HC := Lib.hid (CanS.of p1 p2 p3 p4)
  have HP := Lib.hid hp
  have HSDL := Lib.hid hsd
  clear hWW hBs hBx hx p1 p2 p3 p4 hp hsd hb1 hb2 hb3 hb4 hrc1 hrf1 hrc2 hrf2 hrc3 hrf3
  refine wp_region_ghosts (Γ := (Value × List Tsk) × (Value × List Tsk)) (by kernel_rfl) [2, 5]
    (fun c => [s.val, .int .u64 list, c.1.1, x.val, .int .u64 list, c.2.1, c.1.1, c.2.1])
    (fun c b w' => match b with
      | [b2, b5] => Ext W w' ∧ (b2 = true → OrdGot s list W.heap.size c.1 w') ∧ (b5 = true → OrdGot x list W.heap.size c.2 w')
      | _ => False)
    (by kernel_rfl) (by kernel_rfl) ((undef, []), (undef, [])) ⟨Ext.rfl'.dr, fun h => (by cases h), fun h => (by cases h)⟩ ?_
  intro c
  refine stepG_r rfl rfl (fun L w' hV hn' hcl => run_load_cells 25 _ rfl ⟨w.heap.size, 0, none⟩ [.slice s.lA s.lists.length s.lC, .slice s.tA s.tasks.length s.tC] rfl _ (HBs.out.ext hV.1).cellsAt0 Tryz.underlying25 rfl sta_size) ?_
  simp only [Nat.reduceAdd, Act.put, List.setIfInBounds_toArray, List.set_cons_succ, List.set_cons_zero, List.getD_cons_zero, List.getD_cons_succ, ValG]
  refine stepG_p rfl rfl (fun w => by go_simp) ?_
  simp only [Nat.reduceAdd, Act.put, List.setIfInBounds_toArray, List.set_cons_succ, List.set_cons_zero, List.getD_cons_zero, List.getD_cons_succ, ValG]
  refine ⟨fun L w' hV hi hd hn' hcl => ⟨rfl, fun v w2 => ∃ l, Ext W w2 ∧ OrdGot s list W.heap.size (v, l) w2, ?_, ?_⟩, ?_⟩
  · refine wp_call_fn _ _ _ rfl 19 #[] #[s.val, .int .u64 list] rfl (by simp only [List.map_toArray, List.map_cons, List.map_nil]; rfl) enters_order ?_
    refine (order_any s list w' (HSW.out.ext hV.1) (by omega) HF.out).mono ?_
    rintro e w2 ⟨v, l, rfl, hO, he, hp, hs⟩
    exact ⟨_, rfl, _, rfl, l, hV.1.tr he, ⟨hO.base hV.1.size, hp, hs⟩⟩
  · rintro v w2 ⟨l, he, hg⟩
    have h6 := hn' 6 (by kernel_rfl)
    have h5 := hn' 5 (by kernel_rfl)
    refine ⟨((v, l), c.2), fun j hj => ?_, rfl, he, fun _ => hg, fun h => by have h : L 5 = true := h; rw [h5] at h; cases h⟩
    match j, hj with
    | 0, _ => rfl
    | 1, _ => rfl
    | 2, hj => rw [hi] at hj; cases hj
    | 3, _ => rfl
    | 4, _ => rfl
    | 5, _ => rfl
    | 6, hj => rw [h6] at hj; cases hj
    | 7, _ => rfl
    | j + 8, _ => rfl
  simp only [Nat.reduceAdd, Act.put, List.setIfInBounds_toArray, List.set_cons_succ, List.set_cons_zero, List.getD_cons_zero, List.getD_cons_succ, ValG]
  refine stepG_r rfl rfl (fun L w' hV hn' hcl => run_load_cells 25 _ rfl ⟨w4.heap.size, 0, none⟩ [.slice x.lA x.lists.length x.lC, .slice x.tA x.tasks.length x.tC] rfl _ (HBx.out.ext hV.1).cellsAt0 Tryz.underlying25 rfl sta_size) ?_
  simp only [Nat.reduceAdd, Act.put, List.setIfInBounds_toArray, List.set_cons_succ, List.set_cons_zero, List.getD_cons_zero, List.getD_cons_succ, ValG]
  refine stepG_p rfl rfl (fun w => by go_simp) ?_
  simp only [Nat.reduceAdd, Act.put, List.setIfInBounds_toArray, List.set_cons_succ, List.set_cons_zero, List.getD_cons_zero, List.getD_cons_succ, ValG]
  refine ⟨fun L w' hV hi hd hn' hcl => ⟨rfl, fun v w2 => ∃ l, Ext W w2 ∧ OrdGot s list W.heap.size c.1 w2 ∧ OrdGot x list W.heap.size (v, l) w2, ?_, ?_⟩, ?_⟩
  · have h2 := hd 2 (by kernel_rfl)
    refine wp_call_fn _ _ _ rfl 19 #[] #[x.val, .int .u64 list] rfl (by simp only [List.map_toArray, List.map_cons, List.map_nil]; rfl) enters_order ?_
    refine (order_any x list w' (HX.out.ok.ext hV.1) hxn (fun t m => HX.out.tasks.few t m)).mono ?_
    rintro e w2 ⟨v, l, rfl, hO, he, hp, hs⟩
    exact ⟨_, rfl, _, rfl, l, hV.1.tr he, (hV.2.1 h2).ext he, ⟨hO.base hV.1.size, hp, hs⟩⟩
  · rintro v w2 ⟨l, he, hg1, hg⟩
    have h7 := hn' 7 (by kernel_rfl)
    refine ⟨(c.1, (v, l)), fun j hj => ?_, rfl, he, fun _ => hg1, fun _ => hg⟩
    match j, hj with
    | 0, _ => rfl
    | 1, _ => rfl
    | 2, _ => rfl
    | 3, _ => rfl
    | 4, _ => rfl
    | 5, hj => rw [hi] at hj; cases hj
    | 6, _ => rfl
    | 7, hj => rw [h7] at hj; cases hj
    | j + 8, _ => rfl
  simp only [Nat.reduceAdd, Act.put, List.setIfInBounds_toArray, List.set_cons_succ, List.set_cons_zero, List.getD_cons_zero, List.getD_cons_succ, ValG]
  refine stepG_p rfl rfl (fun w => by go_simp) ?_
  simp only [Nat.reduceAdd, Act.put, List.setIfInBounds_toArray, List.set_cons_succ, List.set_cons_zero, List.getD_cons_zero, List.getD_cons_succ, ValG]
  refine stepG_p rfl rfl (fun w => by go_simp) ?_
  simp only [Nat.reduceAdd, Act.put, List.setIfInBounds_toArray, List.set_cons_succ, List.set_cons_zero, List.getD_cons_zero, List.getD_cons_succ, ValG]
  intro w5 hV
  obtain ⟨e5, k1, k2⟩ := hV
  have g1 := k1 rfl
  have g2 := k2 rfl
  clear k1 k2
  obtain ⟨⟨v1, la⟩, ⟨v2, lb⟩⟩ := c
  dsimp only at g1 g2 ⊢
  obtain ⟨A1, c1, hv1⟩ := own_shape g1.own.row
  obtain ⟨A2, c2, hv2⟩ := own_shape g2.own.row
  dsimp only at hv1 hv2
  subst hv1 hv2
  have R := (right_iff _ _).1 HR.out
  obtain ⟨q1, q2⟩ := HC.out.right R
  have hl0 : x0.tasks.length = s.tasks.length := by have := congrArg List.length q2; simpa using this
  have hln : l.length ≤ 999 := by
    have h1 := HP.out.length_eq
    have h2 := List.length_filter_le (fun t : Tsk => t.list == list) x0.tasks
    simp only [List.length_map] at h1
    omega
  have hnid : (x0.tasks.map Tsk.id).Nodup := rise_nodup Tsk.id HC.out.trise
  have gp2 : (lb.map Tsk.core).Perm ((x.tasks.filter fun t => t.list == list).map Tsk.core) := g2.perm
  have gs2 : Sd (ltc ordCf) lb 0 lb.length := g2.sd
  have gs1 : Sd (ltc ordCf) la 0 la.length := g1.sd
  rw [HXT.out] at gp2
  obtain ⟨o1, o2⟩ := spr_order hnid HP.out hln gp2 gs2
  have oa : la.map Tsk.id = l.map Tsk.id := by
    refine ids_of_pos (pos_uniq ?_ (sd_pos gs1) (sd_pos HSDL.out))
    refine pos_perm (g1.perm.trans ?_)
    rw [← filter_core list q2]
    exact HP.out.symm
  obtain ⟨i1, i2⟩ := gt_of_ids (oa.trans o1.symm)
  have HI := Lib.hid i2
  have hlb : lb.length = l.length := by have := congrArg List.length o1; simpa using this
  have hrx : rightErr x.lists x.tasks = 0 := by
    rw [HXL.out, HXT.out, q1]
    exact (right_iff _ _).2 (spr_right R q2 hln)
  have HRX := Lib.hid hrx
  have hbt : ∀ lm : List Tsk, (hasLst x.lists list = true → (lm.map Tsk.core).Perm ((x.tasks.filter fun t => t.list == list).map Tsk.core) ∧ Sd (ltc ordCf) lm 0 lm.length) → (btw (hasLst x.lists list) lm after).2 ≠ 100 := by
    intro lm hlm
    cases hh : hasLst x.lists list with
    | false => rw [btw_eq]; simp
    | true =>
      obtain ⟨h1, h2⟩ := hlm hh
      rw [HXT.out] at h1
      obtain ⟨_, h4⟩ := spr_order hnid HP.out hln h1 h2
      refine btw_spread ?_ h4 _ _
      have h5 := h1.length_eq
      have h6 := List.length_filter_le (fun t : Tsk => t.list == list) (x0.tasks.map (sprT l l.length))
      simp only [List.length_map] at h5 h6
      omega
  have HBT := Lib.hid hbt
  have HG1 := Lib.hid g1.own
  have HG2 := Lib.hid g2.own
  have hla : la.length ≤ 999 := by omega
  have hne : (((la.length : Nat) : Int) != ((lb.length : Nat) : Int)) = false := by rw [i1]; simp
  have hne2 : (((lb.length : Nat) : Int) != ((lb.length : Nat) : Int)) = false := by simp
  have HLL := Lib.hid i1
  have e5w : Ext w w5 := eW.tr e5
  have hz5 : w4.heap.size < w5.heap.size := Nat.lt_of_lt_of_le HBx.out.lt e5.size
  have HBx5 := Lib.hid (HBx.out.ext e5)
  clear R q1 q2 hl0 hln hnid gp2 gs2 gs1 o1 o2 oa i1 i2 hrx hbt g1 g2 hlb
  have h50 : w5.cell? ⟨w4.heap.size, 0, none⟩ = some (.slice x.lA x.lists.length x.lC) := (HBx5.out.cell 0).trans rfl
  have h51 : w5.cell? ⟨w4.heap.size, 1, none⟩ = some (.slice x.tA x.tasks.length x.tC) := (HBx5.out.cell 1).trans rfl
  go_wp2_with (go_at_call 17; refine (right_any x _ (HX.out.ok.ext e5)).mono ?_; rintro e w6 ⟨rfl, hb6⟩; rw [HRX.out]; have e6 : Ext w5 w6 := hb6)
  clear h50 h51 hb6
  go_loopw [44] (fun i wr => ∃ k : Nat, k ≤ la.length ∧ i = .int .i64 k ∧ Ext w5 wr) (fun i _ => la.length - (intOf i).toNat)
  case atStart => exact ⟨0, Nat.zero_le _, rfl, e6⟩
  case round =>
    obtain ⟨k, hk, rfl, er⟩ := hrel
    by_cases hlt : k < la.length
    · have hlt2 : k < lb.length := by rw [← HLL.out]; exact hlt
      obtain ⟨ga, ca, hva, hga1, hga2, _, ra, hba⟩ : ∃ g cap, (Value.slice A1 la.length c1) = .slice (some ⟨g, 0, none⟩) la.length cap ∧ W.heap.size ≤ g ∧ g < w5.heap.size ∧ la.length ≤ cap ∧ ∃ rest, Blk w5 g 36 (la.flatMap Tsk.row ++ rest) := by
        rcases own_form HG1.out.row with ⟨_, h0, _⟩ | h
        · exfalso; have h0 : la.length = 0 := h0; omega
        · exact h
      obtain ⟨gq, cq, hvq, hgq1, hgq2, _, rq, hbq⟩ : ∃ g cap, (Value.slice A2 lb.length c2) = .slice (some ⟨g, 0, none⟩) lb.length cap ∧ W.heap.size ≤ g ∧ g < w5.heap.size ∧ lb.length ≤ cap ∧ ∃ rest, Blk w5 g 36 (lb.flatMap Tsk.row ++ rest) := by
        rcases own_form HG2.out.row with ⟨_, h0, _⟩ | h
        · exfalso; have h0 : lb.length = 0 := h0; omega
        · exact h
      have ca1 : wr.cell? ⟨ga, k * 7, none⟩ = some (.int .u64 (gt la k).id) := (er.cell_ ((hba.cell (k * 7 + 0)).trans (flat_get Tsk.row 7 tsk_len ra la k 0 _ hlt rfl)))
      have cq1 : wr.cell? ⟨gq, k * 7, none⟩ = some (.int .u64 (gt lb k).id) := (er.cell_ ((hbq.cell (k * 7 + 0)).trans (flat_get Tsk.row 7 tsk_len rq lb k 0 _ hlt2 rfl)))
      rw [← HI.out k hlt] at cq1
      generalize (gt la k).id = ida at ca1 cq1
      injection hva with ha1 _ ha2
      injection hvq with hq1 _ hq2
      subst ha1 ha2 hq1 hq2
      clear hba hbq
      go_wp2
      go_quiet (fail)
      go_wp2
      go_roundw
      case rel => exact ⟨k + 1, by omega, by go_num, er.drN _⟩
      case measure => simp [intOf]; omega
    · have hbr := HBx5.out.ext er
      have HBR := Lib.hid hbr
      clear hbr
      go_wp2_with (first
        | (refine wpList_load_cells rfl 25 (.tmp 7) rfl ⟨w4.heap.size, 0, none⟩ [.slice x.lA x.lists.length x.lC, .slice x.tA x.tasks.length x.tC] rfl _ HBR.out.cellsAt0 Tryz.underlying25 rfl sta_size ?_)
        | (go_at_call 20; refine (between_any x list after _ (HX.out.ok.ext (e5.tr er)) hxn (fun t m => HX.out.tasks.few t m)).mono ?_; rintro e w7 ⟨lm, rfl, hb7, hlm⟩; have hbz := HBT.out lm hlm; generalize (btw (hasLst x.lists list) lm after).2 = z at hbz; have HBZ := Lib.hid hbz; clear hlm hbz))
      go_ret
      refine ⟨?_, (e5w.tr er).tr hb7⟩
      have := HBZ.out
      simp [this]
end Go.Proofs.YthhmbijblpjfpaaGreat
