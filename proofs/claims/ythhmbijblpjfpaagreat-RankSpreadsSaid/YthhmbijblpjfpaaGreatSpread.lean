/- rank.Spread: a list's tasks get the ranks 1, 2, 3 .. in their order. -/
import Derived.Test.YthhmbijblpjfpaaGreatCanon
import Derived.Test.YthhmbijblpjfpaaGreatCell
import Derived.Test.YthhmbijblpjfpaaGreatFind
import Derived.Test.YthhmbijblpjfpaaGreatBehind
namespace Go.Proofs.YthhmbijblpjfpaaGreat
open Go.RowKit

/-- the float of a small number -/
noncomputable def rkOf : Nat → Nat := Classical.choose (laid fun (k : Nat) => (floatOfInt FloatKind.f64 (k : Int) : Nat))
theorem rkOf_eq (k : Nat) : rkOf k = (floatOfInt FloatKind.f64 (k : Int) : Nat) := laid1 _ k


/-- a task's rank behind k rounds -/
noncomputable def rkNew : (List Tsk) → Nat → Tsk → Nat := Classical.choose (laid fun (l : List Tsk) (k : Nat) (t : Tsk) => (if 0 ≤ placeOf l t.id ∧ placeOf l t.id < k then rkOf ((placeOf l t.id).toNat + 1) else t.rank : Nat))
theorem rkNew_eq (l : List Tsk) (k : Nat) (t : Tsk) : rkNew l k t = (if 0 ≤ placeOf l t.id ∧ placeOf l t.id < k then rkOf ((placeOf l t.id).toNat + 1) else t.rank : Nat) := laid3 _ l k t


noncomputable def sprT (l : List Tsk) (k : Nat) (t : Tsk) : Tsk := { t with rank := rkNew l k t }
theorem sprT_zero (l : List Tsk) (ts : List Tsk) : ts.map (sprT l 0) = ts := by
  have : ∀ t : Tsk, sprT l 0 t = t := fun t => by
    unfold sprT
    rw [rkNew_eq, if_neg (by omega)]
  rw [show sprT l 0 = id from funext this, List.map_id]
theorem spr_place {x : List Tsk} {l : List Tsk} {list : Int} (hp : (l.map Tsk.core).Perm ((x.filter fun t => t.list == list).map Tsk.core)) (k : Nat) {i : Nat} (hi : i < l.length) :
    ∃ p : Nat, placeOf (x.map (sprT l k)) (gt l i).id = (p : Int) ∧ p < x.length ∧ (gt x p).id = (gt l i).id := by
  have hm : (gt l i).core ∈ l.map Tsk.core := by rw [gt_lt hi]; exact List.mem_map_of_mem (List.getElem_mem hi)
  have h2 := hp.subset hm
  obtain ⟨y, hy, hyc⟩ := List.mem_map.1 h2
  have hyx := (List.mem_filter.1 hy).1
  have hid : y.id = (gt l i).id := by have := congrArg Tsk.id hyc; exact this
  rcases placeOf_cases (x.map (sprT l k)) (gt l i).id with ⟨_, h⟩ | ⟨p, h1, h3, h4⟩
  · exact absurd hid (h (sprT l k y) (List.mem_map_of_mem hyx))
  · rw [List.length_map] at h3
    refine ⟨p, h1, h3, ?_⟩
    rw [← h4, gt_lt h3, gt_lt (by simpa using h3), List.getElem_map]
    rfl
theorem rk_lt (k : Nat) (h : k ≤ 1000) : rkOf k < 18446744073709551616 := by
  have h1 : ((List.range 1001).all fun k => decide (floatOfInt FloatKind.f64 (k : Int) < 18446744073709551616)) = true := by decide +kernel
  have := List.all_eq_true.1 h1 k (List.mem_range.2 (by omega))
  rw [rkOf_eq]
  simpa using this
theorem dedT_ids : ∀ (ts acc : List Tsk), (acc.map Tsk.id).Nodup → ((dedT acc ts).map Tsk.id).Nodup
  | [], acc, h => h
  | t :: ts, acc, h => by
    unfold dedT
    split
    · exact dedT_ids ts acc h
    · rename_i hh
      refine dedT_ids ts _ ?_
      rw [List.map_append, List.nodup_append]
      refine ⟨h, by simp, ?_⟩
      intro a ha b hb
      have hb' : b = t.id := by
        have : (canT t).core.id = t.id := by rw [canT_eq]; rfl
        simpa [this] using hb
      subst hb'
      intro e
      obtain ⟨y, hy, rfl⟩ := List.mem_map.1 ha
      refine hh ?_
      rw [hasTsk_eq, List.any_eq_true]
      exact ⟨y, hy, by simpa using e⟩
theorem core_ids (l : List Tsk) : (l.map Tsk.core).map Tsk.id = l.map Tsk.id := by rw [List.map_map]; rfl
theorem ids_perm {a b : List Tsk} (h : (a.map Tsk.core).Perm (b.map Tsk.core)) : (a.map Tsk.id).Perm (b.map Tsk.id) := by
  have := h.map Tsk.id
  rwa [core_ids, core_ids] at this
theorem nodup_at {l : List Tsk} (h : (l.map Tsk.id).Nodup) {i j : Nat} (hi : i < l.length) (hj : j < l.length) (he : (gt l i).id = (gt l j).id) : i = j := by
  rw [gt_lt hi, gt_lt hj] at he
  exact (List.getElem_inj (h₀ := by simpa using hi) (h₁ := by simpa using hj) h).1 (by simpa using he)
theorem place_self {l : List Tsk} (h : (l.map Tsk.id).Nodup) {k : Nat} (hk : k < l.length) : placeOf l (gt l k).id = k := by
  rcases placeOf_cases l (gt l k).id with ⟨_, h1⟩ | ⟨j, h1, h2, h3⟩
  · exact absurd rfl (h1 _ (by rw [gt_lt hk]; exact List.getElem_mem hk))
  · rw [h1, nodup_at h h2 hk h3]
theorem spr_rank {l : List Tsk} (h : (l.map Tsk.id).Nodup) {k : Nat} (hk : k < l.length) {t : Tsk} (ht : t.id = (gt l k).id) : sprT l (k + 1) t = { t with rank := rkOf (k + 1) } := by
  unfold sprT
  rw [rkNew_eq, ht, place_self h hk, if_pos (by omega)]
  rfl
theorem spr_set {x l : List Tsk} (hx : (x.map Tsk.id).Nodup) {k p : Nat} (hk : k < l.length) (hp : p < x.length) (hid : (gt x p).id = (gt l k).id) :
    (x.map (sprT l k)).set p (sprT l (k + 1) (gt x p)) = x.map (sprT l (k + 1)) := by
  apply List.ext_getElem?
  intro i
  rw [List.getElem?_set]
  split
  · rename_i h
    subst h
    rw [if_pos (by simpa using hp), List.getElem?_map, List.getElem?_eq_getElem hp, gt_lt hp]
    rfl
  · rename_i h
    rw [List.getElem?_map, List.getElem?_map]
    cases hi : x[i]? with
    | none => rfl
    | some y =>
      have hil := (List.getElem?_eq_some_iff.1 hi).1
      have hy : gt x i = y := by rw [gt_lt hil]; exact (List.getElem?_eq_some_iff.1 hi).2
      have hne : placeOf l y.id ≠ k := by
        intro e
        rcases placeOf_cases l y.id with ⟨h1, _⟩ | ⟨j, h1, h2, h3⟩
        · omega
        · have : j = k := by omega
          subst this
          refine h (nodup_at hx hp hil ?_)
          rw [hid, h3, hy]
      have : sprT l k y = sprT l (k + 1) y := by
        unfold sprT
        rw [rkNew_eq, rkNew_eq]
        by_cases hc : 0 ≤ placeOf l y.id ∧ placeOf l y.id < k
        · rw [if_pos hc, if_pos (by omega)]
        · rw [if_neg hc, if_neg (by omega)]
      simp [this]
set_option maxRecDepth 100000 in
theorem spread_any (s : Sta) (list : Int) (w : World) (hs : s.ok w) (hl : s.lists.length ≤ 1000) (hn : s.tasks.length ≤ 1000) (ht : ∀ t ∈ s.tasks, t.tags.length ≤ 1000) :
    Calls Tryz.prog 18 #[s.val, .int .u64 list] w fun e w' => ∃ (x0 x : Sta) (l : List Tsk), e = .returned x.val ∧ OwnS w' w.heap.size x ∧ Ext w w' ∧
      (x0.lists.Perm (dedL [] s.lists) ∧ Sd (ltOf fun x y => cmpI x.id y.id) x0.lists 0 x0.lists.length ∧ (x0.tasks.map Tsk.core).Perm (dedT [] s.tasks) ∧ Sd (ltOf fun x y => cmpI x.id y.id) x0.tasks 0 x0.tasks.length) ∧
      (l.map Tsk.core).Perm ((x0.tasks.filter fun t => t.list == list).map Tsk.core) ∧ Sd (ltc ordCf) l 0 l.length ∧ x.lists = x0.lists ∧ x.tasks = x0.tasks.map (sprT l l.length) := by
  have hsf := store_float
  have HS := Lib.hid hs
  have HT := Lib.hid ht
  clear hs ht
  go_enter Tryz.func18, Tryz.ntmps18
  go_wp2_with (first
    | (go_at_call 58; refine (canon_any' s _ (HS.out.ext (by exact (Ext.rfl'.al _).al _)) hl hn HT.out).mono ?_; rintro e w1 ⟨x, rfl, hx, hb1, hp1, hs1, hp2, hs2⟩; have HX := Lib.hid hx; have HP1 := Lib.hid hp1; have HS1 := Lib.hid hs1; have HP2 := Lib.hid hp2; have HS2 := Lib.hid hs2; obtain ⟨hrc, hrf⟩ := Ext.rules hb1; have hz := hb1.size; have hxt := hx.nt; clear hx hp1 hs1 hp2 hs2)
    | (go_at_call 19; refine (order_any x list _ (HX.out.ok.ext (by exact Ext.rfl'.al _)) hxt (fun t m => HX.out.tasks.few t m)).mono ?_; rintro e w2 ⟨v, l, rfl, hO, hb2, hp, hsd⟩; obtain ⟨A2, c2, rfl⟩ := own_shape hO.row))
  have hll : l.length ≤ 1000 := order_len hp hxt
  have HP := Lib.hid hp
  have HSD := Lib.hid hsd
  obtain ⟨W, hWW⟩ : ∃ W, W = w1.alloc (.cells #[.slice x.lA x.lists.length x.lC, .slice x.tA x.tasks.length x.tC] 25) := ⟨_, rfl⟩
  have hbase : w.heap.size + 2 ≤ w1.heap.size := by simpa using hz
  have e1 : Ext w w1 := ((Ext.rfl'.al _).al _).tr hb1
  have eW : Ext w1 W := by rw [hWW]; exact Ext.rfl'.al _
  have hzW : W.heap.size = w1.heap.size + 1 := by rw [hWW]; simp
  have hbW : Ext W w2 := by rw [hWW]; exact hb2
  have HR := Lib.hid (show OwnR w2 (w.heap.size + 2) (.slice x.tA x.tasks.length x.tC) x.tasks by
    have h := (HX.out.tasks.ext eW).ext hbW
    exact h.base (by simp))
  have HL := Lib.hid (show w2.ownsRow (w.heap.size + 2) 50 2 (.slice x.lA x.lists.length x.lC) x.lists.length (x.lists.flatMap Lst.row) by
    have h := own_ext (own_ext HX.out.lists eW) hbW
    exact own_base h (by simp))
  have HV := Lib.hid (show w2.ownsRow W.heap.size 36 7 (.slice A2 l.length c2) l.length (l.flatMap Tsk.row) by rw [hWW]; exact hO.row)
  have HB1 := Lib.hid (show Blk w2 (w.heap.size + 1) 25 [.slice none 0 0, .slice none 0 0] from (((Blk.new1 w _ _ _).ext hb1).ext eW).ext hbW)
  have HB5 := Lib.hid (show Blk w2 w1.heap.size 25 [.slice x.lA x.lists.length x.lC, .slice x.tA x.tasks.length x.tC] from (show Blk W w1.heap.size 25 [.slice x.lA x.lists.length x.lC, .slice x.tA x.tasks.length x.tC] by rw [hWW]; exact Blk.new w1 _ _).ext hbW)
  have ew2 : Ext w w2 := (e1.tr eW).tr hbW
  have hxid : (x.tasks.map Tsk.id).Nodup := by rw [← core_ids]; exact ((HP2.out.map Tsk.id).nodup_iff).2 (dedT_ids _ _ (by simp))
  have HXb := Lib.hid (show ∀ g, (Value.slice x.tA x.tasks.length x.tC).ownBlock = some g → w.heap.size + 2 ≤ g ∧ g < w1.heap.size from fun g hg => by have := own_lt HX.out.tasks.row hg; simp at this; omega)
  clear hO hp hsd hWW hb1 hb2 hrc hrf
  have hgb : W.heap.size ≤ w2.heap.size := hbW.size
  generalize w1.heap.size = g5 at *
  generalize W.heap.size = gb at *
  go_loopw [15] (fun i wr => ∃ k : Nat, k ≤ l.length ∧ i = .int .i64 k ∧ OwnR wr (w.heap.size + 2) (.slice x.tA x.tasks.length x.tC) (x.tasks.map (sprT l k)) ∧
      wr.ownsRow (w.heap.size + 2) 50 2 (.slice x.lA x.lists.length x.lC) x.lists.length (x.lists.flatMap Lst.row) ∧
      wr.ownsRow gb 36 7 (.slice A2 l.length c2) l.length (l.flatMap Tsk.row) ∧
      Blk wr (w.heap.size + 1) 25 [.slice none 0 0, .slice none 0 0] ∧
      Blk wr g5 25 [.slice x.lA x.lists.length x.lC, .slice x.tA x.tasks.length x.tC] ∧ Ext w wr ∧ gb ≤ wr.heap.size) (fun i _ => l.length - (intOf i).toNat)
  case atStart => exact ⟨0, Nat.zero_le _, rfl, by rw [sprT_zero]; exact HR.out, HL.out, HV.out, HB1.out, HB5.out, ew2, hgb⟩
  case round =>
    obtain ⟨k, hk, rfl, hr, hli, hv, hb1, hb5, he, hgr⟩ := hrel
    have HRr := Lib.hid hr
    have HLr := Lib.hid hli
    have HVr := Lib.hid hv
    have HB1r := Lib.hid hb1
    have HB5r := Lib.hid hb5
    by_cases hlt : k < l.length
    · obtain ⟨gl, cap, hvl, hgl1, hgl2, _, rest, hbl⟩ : ∃ g cap, (Value.slice A2 l.length c2) = .slice (some ⟨g, 0, none⟩) l.length cap ∧ gb ≤ g ∧ g < wr.heap.size ∧ l.length ≤ cap ∧ ∃ rest, Blk wr g 36 (l.flatMap Tsk.row ++ rest) := by
        rcases own_form hv with ⟨_, h0, _⟩ | h
        · omega
        · exact h
      obtain ⟨t, htk⟩ : ∃ t, t = gt l k := ⟨_, rfl⟩
      have hcl := RB.at_ (show RB wr gl l rest from hbl) hlt
      obtain ⟨p, hp, hpl, hpid⟩ := spr_place HP.out k hlt
      rw [← htk] at hcl hp hpid
      have HTK := Lib.hid htk
      injection hvl with hA2 _ hc2
      subst hA2 hc2
      have HCL := Lib.hid hcl
      obtain ⟨gx, capx, hvx, hgx1, hgx2, _, restx, hbx⟩ : ∃ g cap, (Value.slice x.tA x.tasks.length x.tC) = .slice (some ⟨g, 0, none⟩) x.tasks.length cap ∧ (w.heap.size + 2 ≤ g ∧ g < g5) ∧ g < wr.heap.size ∧ x.tasks.length ≤ cap ∧ ∃ rest, Blk wr g 36 ((x.tasks.map (sprT l k)).flatMap Tsk.row ++ rest) := by
        rcases own_form hr.row with ⟨_, h0, _⟩ | ⟨g, cap, h1, h2, h3, h4, h5⟩
        · rw [List.length_map] at h0; omega
        · rw [List.length_map] at h1 h4
          exact ⟨g, cap, h1, HXb.out g (by rw [h1]; rfl), h3, h4, h5⟩
      have HVX := Lib.hid hvx
      have HBX := Lib.hid hbx
      have hnid := (ids_perm HP.out).nodup_iff.2 ((List.Sublist.map Tsk.id List.filter_sublist).nodup hxid)
      have hfit : p * 7 + 4 < ((x.tasks.map (sprT l k)).flatMap Tsk.row ++ restx).length := by rw [List.length_append, flat_len Tsk.row 7 tsk_len, List.length_map]; omega
      have hrk := spr_rank hnid hlt (t := gt x.tasks p) (by rw [hpid, htk])
      have HRK := Lib.hid hrk
      have HSS := Lib.hid (spr_set hxid hlt hpl (by rw [hpid, htk]))
      have hz5 := hb5.lt
      have HPL := fun W (e : Ext wr W) => Lib.hid (place_any' x.tA x.tC (x.tasks.map (sprT l k)) t.id W ((HRr.out.ext e).tsks (by simp) (by simp; omega)))
      rw [hp, List.length_map] at HPL
      have HPP := Lib.hid hp
      have HPI := Lib.hid hpid
      clear hr hli hv hb1 hb5 hbl hcl hp hpid htk hbx hvx hnid hrk
      go_wp2_with (first
        | (refine wpList_load_cells rfl 36 (.tmp 18) rfl ⟨gl, k * 7, none⟩ (Tsk.row t) rfl _ HCL.out Tryz.underlying36 rfl tsk_size ?_)
        | (refine wpList_load_one rfl 23 (.tmp 20) rfl ⟨g5, 1, none⟩ (.slice x.tA x.tasks.length x.tC) rfl _ (((HB5r.out.al _).cell 1).trans rfl) Tryz.underlying23 rfl ?_)
        | (go_at_call 59; refine (HPL _ (by exact Ext.rfl'.al _)).out.mono ?_; rintro e w3 ⟨rfl, hb3⟩; have e3 : Ext wr w3 := (Ext.rfl'.al _).tr hb3)
        | (refine wpList_load_one rfl 23 (.tmp 25) rfl ⟨g5, 1, none⟩ (.slice (some ⟨gx, 0, none⟩) x.tasks.length capx) rfl _ (((HB5r.out.ext e3).cell 1).trans (congrArg some HVX.out)) Tryz.underlying23 rfl ?_)
        | (refine wpList_store_cell rfl 33 (.tmp 32) (.tmp 30) rfl gx (p * 7 + 4) 36 _ (.float .f64 (floatOfInt .f64 (k + 1))) rfl rfl rfl (HBX.out.ext e3) hfit (by kernel_rfl) rfl ?_; intro w4 hb4 ho4))
      have hgm : gt (x.tasks.map (sprT l k)) p = sprT l k (gt x.tasks p) := by rw [gt_lt (by simpa using hpl), gt_lt hpl, List.getElem_map]
      have h4 : OwnR w4 (w.heap.size + 2) (.slice (some ⟨gx, 0, none⟩) x.tasks.length capx) ((x.tasks.map (sprT l k)).set p (sprT l (k + 1) (gt x.tasks p))) := by
        have h0 := HRr.out.ext e3
        rw [HVX.out] at h0
        refine h0.cell (by simp) (HBX.out.ext e3) (by simpa using hpl) (j := 4) (by omega) ?_ ?_ ?_ ?_ hb4 ho4
        · rw [hgm, HRK.out, rkOf_eq]
          rfl
        · rw [hgm]; rfl
        · rw [hgm]; rfl
        · rw [HRK.out]
          have h1 := (HRr.out.flt (sprT l k (gt x.tasks p)) (List.mem_map_of_mem (by rw [gt_lt hpl]; exact List.getElem_mem hpl))).2
          exact ⟨rk_lt (k + 1) (by omega), h1⟩
      rw [HSS.out, ← HVX.out] at h4
      have hlx : (Value.slice x.lA x.lists.length x.lC).ownBlock = none ∨ (Value.slice x.lA x.lists.length x.lC).ownBlock ≠ some gx := by
        have h1 := HX.out.off
        rw [show (Value.slice x.tA x.tasks.length x.tC) = _ from HVX.out] at h1
        exact h1
      have hz3 := e3.size
      go_roundw
      case rel => exact ⟨k + 1, by omega, by go_num, h4, (own_ext HLr.out e3).kept (Srt.of_only ho4) hlx, own_only (own_ext HVr.out e3) ho4 (by omega), (HB1r.out.ext e3).only ho4 (by omega), (HB5r.out.ext e3).only ho4 (by omega), (he.tr e3).only (by omega) ho4, by have := ho4.size; omega⟩
      case measure => simp [intOf]; omega
    · obtain rfl : k = l.length := by omega
      clear hr hli hv hb1 hb5
      go_wp2_with (first
        | (refine wpList_load_cells rfl 25 (.tmp 5) rfl ⟨g5, 0, none⟩ [.slice x.lA x.lists.length x.lC, .slice x.tA x.tasks.length x.tC] rfl _ HB5r.out.cellsAt0 Tryz.underlying25 rfl sta_size ?_)
        | (refine wpList_store_agg rfl 25 (.tmp 4) (.tmp 34) rfl _ 0 25 _ [.slice x.lA x.lists.length x.lC, .slice x.tA x.tasks.length x.tC] rfl rfl HB1r.out (by simp) sta_size (by simp [Value.oneCell']) ?_; intro w3 hb3 ho3))
      refine bodyPost_cell1 (cs := [.slice x.lA x.lists.length x.lC, .slice x.tA x.tasks.length x.tC]) rfl rfl (by simpa [splice] using hb3) Tryz.underlying25 rfl sta_size rfl ⟨x, ⟨x.lists, x.tasks.map (sprT l l.length), x.lA, x.lC, x.tA, x.tC⟩, l, ?_, ⟨?_, ?_, ?_, ?_, ?_, ?_⟩, ?_, ⟨HP1.out, HS1.out, HP2.out, HS2.out⟩, HP.out, HSD.out, rfl, rfl⟩
      · simp [Sta.val]
      · exact own_base (own_only HLr.out ho3 (by omega)) (by omega)
      · show OwnR w3 _ (.slice x.tA (x.tasks.map (sprT l l.length)).length x.tC) _
        rw [List.length_map]
        exact (HRr.out.only ho3 (by omega)).base (by omega)
      · show Off _ (.slice x.tA (x.tasks.map (sprT l l.length)).length x.tC)
        rw [List.length_map]
        exact HX.out.off
      · intro t ht
        obtain ⟨y, hy, rfl⟩ := List.mem_map.1 ht
        exact HX.out.offs y hy
      · exact HX.out.nl
      · show (x.tasks.map _).length ≤ 1000
        rw [List.length_map]
        exact hxt
      · exact he.only (by omega) ho3
end Go.Proofs.YthhmbijblpjfpaaGreat
