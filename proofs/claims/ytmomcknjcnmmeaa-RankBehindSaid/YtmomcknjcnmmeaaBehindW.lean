/- The walk of factotumlaw10.RankBehind. -/
import Derived.Test.YtmomcknjcnmmeaaAwake
import Derived.Test.YtmomcknjcnmmeaaAppT
namespace Go.Proofs.Ytmomcknjcnmmeaa
open Go.RowKit

theorem tsks_size : (Try.prog.info? 23).map (·.size) = some 1 := by kernel_rfl
theorem own_ne {w : World} {base : Nat} {e : TypeId} {k : Nat} {v : Value} {n : Nat} {xs : List Value} (h : w.ownsRow base e k v n xs) {g : Nat} (hg : g < base) : some g ≠ v.ownBlock := by
  intro hb
  have := own_lt h hb.symm
  omega
theorem btw_fit (s : Sta) (w : World) (hs : s.ok w) (l : List Tsk) (list after : Int) (bt : Nat × Int) (hq : bt = btw (hasLst s.lists list) l after) (h0 : bt.2 = 0)
    (hl : hasLst s.lists list = true → (l.map Tsk.core).Perm ((s.tasks.filter fun t => t.list == list).map Tsk.core) ∧ Sd (ltc ordCf) l 0 l.length) :
    hasLst s.lists list = true ∧ bt.1 < 18446744073709551616 ∧ (∀ x ∈ l, x.rank < 18446744073709551616) ∧ (∀ x ∈ l, ∃ y ∈ s.tasks, y.id = x.id) := by
  have hh : hasLst s.lists list = true := by
    cases hh : hasLst s.lists list with
    | true => rfl
    | false =>
      rw [hh, btw_eq] at hq
      rw [hq] at h0
      simp at h0
  have hp := (hl hh).1
  have hm : ∀ x ∈ l, ∃ y ∈ s.tasks, y.core = x.core := by
    intro x hx
    have h1 : x.core ∈ (s.tasks.filter fun t => t.list == list).map Tsk.core := hp.mem_iff.1 (List.mem_map_of_mem hx)
    obtain ⟨y, hy, hyc⟩ := List.mem_map.1 h1
    exact ⟨y, (List.mem_filter.1 hy).1, hyc⟩
  have hr : ∀ x ∈ l, x.rank < 18446744073709551616 := by
    intro x hx
    obtain ⟨y, hy, hc⟩ := hm x hx
    have h1 := (hs.tasks.oks y hy).rank
    have h2 : y.rank = x.rank := by have := congrArg Tsk.rank hc; exact this
    omega
  refine ⟨hh, ?_, hr, fun x hx => ?_⟩
  · rw [hh, btw_eq, if_neg (by simp)] at hq
    by_cases h1 : after ≠ 0 ∧ placeOf l after < 0
    · rw [if_pos h1] at hq
      rw [hq]
      decide
    · rw [if_neg h1] at hq
      by_cases hz : l.length = 0
      · rw [if_pos hz] at hq
        rw [hq]
        decide
      · rw [if_neg hz] at hq
        have hk : -1 ≤ (if after = 0 then (-1 : Int) else placeOf l after) ∧ (if after = 0 then (-1 : Int) else placeOf l after) < l.length := by
          split
          · omega
          · rcases placeOf_cases l after with ⟨h2, _⟩ | ⟨k, h2, h3, _⟩
            · omega
            · omega
        obtain ⟨f, b, hm⟩ : ∃ f b, fMid (loAt l (if after = 0 then (-1 : Int) else placeOf l after)) (hiAt l (if after = 0 then (-1 : Int) else placeOf l after)) = (f, b) := ⟨_, _, rfl⟩
        cases b with
        | true =>
          rw [hm] at hq
          have := (fMid_between _ _ f (loAt_lt l _ hr hk.2) (hiAt_lt l _ hr hk.1) hm).2.2.1
          rw [hq]
          exact this
        | false =>
          rw [hm] at hq
          rw [hq]
          simp
  · obtain ⟨y, hy, hc⟩ := hm x hx
    exact ⟨y, hy, by have := congrArg Tsk.id hc; exact this⟩
theorem textsOk_few {l : List ByteArray} (h : textsOk l = true) : l.length ≤ 8 := by
  rw [textsOk_eq] at h
  simp at h
  exact h.2
theorem lightOk_few {l : List Lst} {ts : List Tsk} (h : lightOk l ts = true) : l.length ≤ 25 ∧ ts.length ≤ 70 ∧ ∀ t ∈ ts, t.tags.length ≤ 1000 := by
  rw [lightOk_eq] at h
  simp at h
  refine ⟨h.1.1.1, h.1.1.2, fun t ht => ?_⟩
  have := textsOk_few (h.2 t ht).2
  omega
theorem tskErr_ids (L : List Lst) : ∀ (ts : List Tsk) (a : Int), tskErr L a ts = 0 → ∀ t ∈ ts, a < t.id
  | [], _, _, t, ht => by simp at ht
  | x :: xs, a, h, t, ht => by
    unfold tskErr at h
    split at h
    · simp at h
    · split at h
      · rename_i h2
        rw [h] at h2
        simp at h2
      · rcases List.mem_cons.1 ht with rfl | ht
        · omega
        · have := tskErr_ids L xs x.id h t ht
          omega

set_option maxHeartbeats 400000 in
set_option maxRecDepth 100000 in
theorem behind_any (s : Sta) (list after id : Int) (w : World) (hs : s.ok w) (hnil : s.tA = none → s.tC = 0) :
    Calls Try.prog 3 #[s.val, .int .u64 list, .int .u64 after, .int .u64 id] w fun e w' => e = .returned (.bool true) ∧ Ext w w' := by
  have HS := Lib.hid hs
  have hsf := store_float
  have HN := Lib.hid hnil
  obtain ⟨i0, hi0, hy0, hy1, hy2⟩ := info_parts tsk_info
  clear hs hnil
  by_cases hL : lightOk s.lists s.tasks = false
  · have HL := Lib.hid hL
    clear hL
    go_enter Try.func3, Try.ntmps3
    go_wp2_with (first
      | (go_at_call 4; refine (awake_any _).mono ?_; rintro e w1 ⟨rfl, hb1⟩; obtain ⟨hrc1, hrf1⟩ := Ext.rules hb1; have hz1 : w.heap.size < w1.heap.size := (Nat.lt_of_lt_of_le (by simp) hb1.size); have hbw1 : Ext w w1 := (Ext.rfl'.al _).tr hb1)
      | (go_at_call 5; refine (light_any s _ (HS.out.ext hbw1)).mono ?_; rintro e w2 ⟨rfl, hb2⟩; rw [HL.out]))
    go_ret
    refine ⟨rfl, hbw1.tr hb2⟩
  rw [Bool.not_eq_false] at hL
  have HL := Lib.hid hL
  clear hL
  by_cases hR : rightErr s.lists s.tasks ≠ 0
  · have hd : (rightErr s.lists s.tasks != 0) = true := by simpa using hR
    have HD := Lib.hid hd
    obtain ⟨re, hre⟩ : ∃ re, re = rightErr s.lists s.tasks := ⟨_, rfl⟩
    rw [← hre] at hd
    have HRE := Lib.hid hre
    clear hR hre
    go_enter Try.func3, Try.ntmps3
    go_wp2_with (first
      | (go_at_call 4; refine (awake_any _).mono ?_; rintro e w1 ⟨rfl, hb1⟩; obtain ⟨hrc1, hrf1⟩ := Ext.rules hb1; have hz1 : w.heap.size < w1.heap.size := (Nat.lt_of_lt_of_le (by simp) hb1.size); have hbw1 : Ext w w1 := (Ext.rfl'.al _).tr hb1)
      | (go_at_call 5; refine (light_any s _ (HS.out.ext hbw1)).mono ?_; rintro e w2 ⟨rfl, hb2⟩; rw [HL.out]; obtain ⟨hrc2, hrf2⟩ := Ext.rules hb2; have hbw2 : Ext w w2 := hbw1.tr hb2)
      | (go_at_call 6; refine (right_any s _ (HS.out.ext hbw2)).mono ?_; rintro e w3 ⟨rfl, hb3⟩; rw [← HRE.out]))
    go_ret
    refine ⟨rfl, hbw2.tr hb3⟩
  have HR := Lib.hid (show rightErr s.lists s.tasks = 0 by simpa using hR)
  clear hR
  by_cases hidn : id = 0
  · subst hidn
    go_enter Try.func3, Try.ntmps3
    go_wp2_with (first
      | (go_at_call 4; refine (awake_any _).mono ?_; rintro e w1 ⟨rfl, hb1⟩; obtain ⟨hrc1, hrf1⟩ := Ext.rules hb1; have hz1 : w.heap.size < w1.heap.size := (Nat.lt_of_lt_of_le (by simp) hb1.size); have hbw1 : Ext w w1 := (Ext.rfl'.al _).tr hb1)
      | (go_at_call 5; refine (light_any s _ (HS.out.ext hbw1)).mono ?_; rintro e w2 ⟨rfl, hb2⟩; rw [HL.out]; obtain ⟨hrc2, hrf2⟩ := Ext.rules hb2; have hbw2 : Ext w w2 := hbw1.tr hb2; have hz2 : w.heap.size < w2.heap.size := (Nat.lt_of_lt_of_le hz1 hb2.size))
      | (go_at_call 6; refine (right_any s _ (HS.out.ext hbw2)).mono ?_; rintro e w3 ⟨rfl, hb3⟩; rw [HR.out]; obtain ⟨hrc3, hrf3⟩ := Ext.rules hb3; have hbw3 : Ext w w3 := hbw2.tr hb3; have hz3 : w.heap.size < w3.heap.size := (Nat.lt_of_lt_of_le hz2 hb3.size)))
    go_ret
    exact ⟨rfl, hbw3⟩
  have hid0 : (id == 0) = false := by simpa using hidn
  have hbt : ∀ w', Ext w w' → Calls Try.prog 7 #[s.val, .int .u64 id] w' fun e w'' => e = .returned (.tuple #[(findTsk s.tasks id).val, .bool (hasTsk s.tasks id)]) ∧ Ext w' w'' := fun w' h => refTask_any s id w' (HS.out.ext h)
  by_cases hT : hasTsk s.tasks id = true
  · rw [hT] at hbt
    have HB := Lib.hid hbt
    clear hbt hT
    go_enter Try.func3, Try.ntmps3
    go_wp2_with (first
      | (go_at_call 4; refine (awake_any _).mono ?_; rintro e w1 ⟨rfl, hb1⟩; obtain ⟨hrc1, hrf1⟩ := Ext.rules hb1; have hz1 : w.heap.size < w1.heap.size := (Nat.lt_of_lt_of_le (by simp) hb1.size); have hbw1 : Ext w w1 := (Ext.rfl'.al _).tr hb1)
      | (go_at_call 5; refine (light_any s _ (HS.out.ext hbw1)).mono ?_; rintro e w2 ⟨rfl, hb2⟩; rw [HL.out]; obtain ⟨hrc2, hrf2⟩ := Ext.rules hb2; have hbw2 : Ext w w2 := hbw1.tr hb2; have hz2 : w.heap.size < w2.heap.size := (Nat.lt_of_lt_of_le hz1 hb2.size))
      | (go_at_call 6; refine (right_any s _ (HS.out.ext hbw2)).mono ?_; rintro e w3 ⟨rfl, hb3⟩; rw [HR.out]; obtain ⟨hrc3, hrf3⟩ := Ext.rules hb3; have hbw3 : Ext w w3 := hbw2.tr hb3; have hz3 : w.heap.size < w3.heap.size := (Nat.lt_of_lt_of_le hz2 hb3.size))
      | (go_at_call 7; refine (HB.out _ hbw3).mono ?_; rintro e w4 ⟨rfl, hb4⟩))
    go_ret
    exact ⟨rfl, (hbw3.tr hb4).al _⟩
  rw [Bool.not_eq_true] at hT
  rw [hT] at hbt
  have HB := Lib.hid hbt
  have HT := Lib.hid hT
  clear hbt hT
  go_enter Try.func3, Try.ntmps3
  go_wp2_with (first
    | (go_at_call 4; refine (awake_any _).mono ?_; rintro e w1 ⟨rfl, hb1⟩; obtain ⟨hrc1, hrf1⟩ := Ext.rules hb1; have hz1 : w.heap.size < w1.heap.size := (Nat.lt_of_lt_of_le (by simp) hb1.size); have hbw1 : Ext w w1 := (Ext.rfl'.al _).tr hb1; have HBX := Lib.hid ((Blk.new w 25 [.slice s.lA s.lists.length s.lC, .slice s.tA s.tasks.length s.tC]).ext hb1))
    | (go_at_call 5; refine (light_any s _ (HS.out.ext hbw1)).mono ?_; rintro e w2 ⟨rfl, hb2⟩; rw [HL.out]; obtain ⟨hrc2, hrf2⟩ := Ext.rules hb2; have hbw2 : Ext w w2 := hbw1.tr hb2; have hz2 : w.heap.size < w2.heap.size := (Nat.lt_of_lt_of_le hz1 hb2.size))
    | (go_at_call 6; refine (right_any s _ (HS.out.ext hbw2)).mono ?_; rintro e w3 ⟨rfl, hb3⟩; rw [HR.out]; obtain ⟨hrc3, hrf3⟩ := Ext.rules hb3; have hbw3 : Ext w w3 := hbw2.tr hb3; have hz3 : w.heap.size < w3.heap.size := (Nat.lt_of_lt_of_le hz2 hb3.size))
    | (go_at_call 7; refine (HB.out _ hbw3).mono ?_; rintro e w4 ⟨rfl, hb4⟩; obtain ⟨hrc4, hrf4⟩ := Ext.rules hb4; have hbw4 : Ext w w4 := hbw3.tr hb4; have hz4 : w.heap.size < w4.heap.size := (Nat.lt_of_lt_of_le hz3 hb4.size))
    | (go_at_call 8; refine (between_any s list after _ (HS.out.ext (hbw4.al _)) (by have := (lightOk_few HL.out).2.1; omega) (lightOk_few HL.out).2.2).mono ?_; rintro e w5 ⟨l, rfl, hb5, hl⟩; obtain ⟨hrc5, hrf5⟩ := Ext.rules hb5; have hbw5 : Ext w w5 := (hbw4.al _).tr hb5; have hz5 : w.heap.size < w5.heap.size := (Nat.lt_of_lt_of_le (by simp; omega) hb5.size); have HBT := Lib.hid hl; clear hl; obtain ⟨bt, hbteq⟩ : ∃ bt, bt = btw (hasLst s.lists list) l after := ⟨_, rfl⟩; rw [← hbteq]; have HQ := Lib.hid hbteq; clear hbteq; have HBX5 := Lib.hid (HBX.out.ext ((((hb2.tr hb3).tr hb4).al _).tr hb5)))
    | (at_builtin; refine wpList_append_tsks rfl (.tmp 46) rfl (w.heap.size + 1) s.tA s.tasks.length s.tC s.tasks rfl rfl (by have := (lightOk_few HL.out).2.1; omega) (HS.out.ext hbw5).tasks HN.out hz5 ?_; intro A1 c1 w6 hown6 hg6)
    | (at_builtin; refine wpList_append_own_at _ rfl (.tmp 47) (.tmp 52) 23 rfl (w.heap.size + 1) 34 i0 _ 7 80 Try.underlying23 hi0 hy0 hy1 hy2 rfl (by omega) (.slice A1 s.tasks.length c1) s.tasks.length (s.tasks.flatMap Tsk.row) rfl (by exact hown6.alloc _) ⟨w6.heap.size, 0, none⟩ 1 1 (Tsk.row ⟨id, list, ⟨#[116]⟩, false, bt.1, 0, [], none, 0⟩) rfl rfl (by exact (Blk.new w6 _ (Tsk.row ⟨id, list, ⟨#[116]⟩, false, bt.1, 0, [], none, 0⟩)).cellsAt0) (tsk_one _) (by have := (lightOk_few HL.out).2.1; simp only [maxLen]; omega) (by have := (lightOk_few HL.out).2.1; omega) (by have := hg6.size; simp; omega) ?_; intro v7 w7 hown7 hg7 _ _; obtain ⟨A2, c2, rfl⟩ := own_shape hown7; have HBX7 := Lib.hid (((HBX5.out.grown hg6 (by simp)).al _).grown hg7 (own_ne hown6 (by omega))))
    | (refine wpList_store_cell rfl 23 (.tmp 54) (.tmp 53) rfl w.heap.size 1 25 _ (.slice A2 (s.tasks.length + 1) c2) rfl rfl rfl HBX7.out (by simp) tsks_size rfl ?_; intro w8 hb8 ho8; have HBX8 := Lib.hid hb8; clear hb8)
    | (refine wpList_load_cells rfl 25 (.tmp 4) rfl ⟨w.heap.size, 0, none⟩ [.slice s.lA s.lists.length s.lC, .slice A2 (s.tasks.length + 1) c2] rfl _ HBX8.out.cellsAt0 Try.underlying25 rfl sta_size ?_))
  · go_ret
    exact ⟨rfl, hbw5⟩
  have h0 : bt.2 = 0 := by simpa using ‹(bt.2 != 0) = false›
  obtain ⟨hh, hbt, hr, hmem⟩ := btw_fit s w HS.out l list after bt HQ.out h0 HBT.out
  obtain ⟨hp, hsd⟩ := HBT.out hh
  have hidl : ∀ x ∈ l, x.id ≠ id := by
    intro x hx he
    obtain ⟨y, hy, hyi⟩ := hmem x hx
    have h1 := HT.out
    rw [hasTsk_eq, List.any_eq_false] at h1
    exact h1 y hy (by simp [hyi, he])
  obtain ⟨tN, htN⟩ : ∃ tN : Tsk, tN = ⟨id, list, ⟨#[116]⟩, false, bt.1, 0, [], none, 0⟩ := ⟨_, rfl⟩
  have e6 : Ext w w6 := Below.grown hbw5 hg6 hbw5.size (fun k hk => by cases hk)
  have e6a := e6.al (Obj.cells (Tsk.row ⟨id, list, ⟨#[116]⟩, false, bt.1, 0, [], none, 0⟩).toArray 34)
  have e7 : Ext w w7 := Below.grown e6a hg7 e6a.size (fun k hk => by have := (own_lt hown6 hk).1; omega)
  have e8 : Ext w w8 := e7.only (Nat.le_refl _) ho8
  have hown8 := hown7.kept (Srt.of_only ho8) (.inr (fun h => own_ne hown7 (Nat.lt_succ_self w.heap.size) h.symm))
  have hrow : s.tasks.flatMap Tsk.row ++ Tsk.row ⟨id, list, ⟨#[116]⟩, false, bt.1, 0, [], none, 0⟩ = (s.tasks ++ [tN]).flatMap Tsk.row := by rw [htN]; simp
  have hlen : (s.tasks ++ [tN]).length = s.tasks.length + 1 := by simp
  rw [hrow, ← hlen] at hown8
  have hfew := lightOk_few HL.out
  have hsok : Sta.ok w8 ⟨s.lists, s.tasks ++ [tN], s.lA, s.lC, A2, c2⟩ := by
    refine ⟨(HS.out.ext e8).lists, ⟨by have := hfew.2.1; rw [hlen]; omega, rows_of_own tsk_len (by decide) hown8, ?_⟩⟩
    intro t ht
    rcases List.mem_append.1 ht with ht | ht
    · exact (HS.out.ext e8).tasks.oks t ht
    · have : t = tN := by simpa using ht
      rw [this, htN]
      exact ⟨by simp, RowsAt.nil _ _ _, hbt, by simp⟩
  have hO := order_any _ list w8 hsok (by have := hfew.2.1; rw [hlen]; omega) (by
    intro t ht
    rcases List.mem_append.1 ht with ht | ht
    · exact hfew.2.2 t ht
    · have : t = tN := by simpa using ht
      rw [this, htN]
      simp)
  have hv : Sta.val ⟨s.lists, s.tasks ++ [tN], s.lA, s.lC, A2, c2⟩ = .agg #[.slice s.lA s.lists.length s.lC, .slice A2 (s.tasks.length + 1) c2] := by simp [Sta.val]
  rw [hv] at hO
  refine hO.mono ?_
  rintro e w9 ⟨v9, l', rfl, hown9, hb9, hp', hsd'⟩
  have hp2 : (l'.map Tsk.core).Perm (l.map Tsk.core ++ [tN.core]) := by
    refine hp'.trans ?_
    have : (s.tasks ++ [tN]).filter (fun t => t.list == list) = s.tasks.filter (fun t => t.list == list) ++ [tN] := by rw [List.filter_append]; simp [htN]
    rw [this, List.map_append]
    exact hp.symm.append_right _
  have hbe := btw_behind l l' tN after hsd hsd' hp2 (by rw [htN]; exact hidl) hr (by rw [← hh, ← HQ.out, htN]; exact Prod.ext rfl h0)
  have hl'len : l'.length ≤ 1000 := by
    have h1 := hp2.length_eq
    have h2 := hp.length_eq
    have h3 := List.length_filter_le (fun t : Tsk => t.list == list) s.tasks
    simp only [List.length_map, List.length_append, List.length_cons, List.length_nil] at h1 h2
    have := hfew.2.1
    omega
  have hidN : tN.id = id := by rw [htN]
  rw [hidN] at hbe
  have e9 := e8.tr hb9
  clear hown8 hrow hlen hsok hO hv hp' hp2 hp hsd hsd' hmem hidl e6 e6a e7 hr hbt
  obtain ⟨A9, c9, rfl⟩ := own_shape hown9.row
  have HT9 := Lib.hid (hown9.tsks rfl (Nat.le_trans hl'len (by decide)))
  clear HBT HQ HBX HBX5 HBX7 HBX8 hown6 hown7 hg6 hg7 ho8 hrc1 hrf1 hrc2 hrf2 hrc3 hrf3 hrc4 hrf4 hrc5 hrf5 HB HT HS HL HR HN
  rcases hbe with ⟨ha, hpl⟩ | ⟨ha, j, hpl, hj, hja⟩
  · have hd : (after == 0) = true := by simpa using ha
    have HPL := Lib.hid hpl
    clear ha hpl hown9
    go_wp2_with (go_at_call 10; refine (refPlace_any A9 c9 l' id _ HT9.out).mono ?_; rintro e w10 ⟨rfl, hb10⟩; rw [HPL.out])
    go_ret
    exact ⟨rfl, e9.tr hb10⟩
  · have hd : (after == 0) = false := by simpa using ha
    obtain ⟨p, hpj⟩ : ∃ p : Int, p = (j : Int) + 1 := ⟨_, rfl⟩
    rw [← hpj] at hpl
    have HPL := Lib.hid hpl
    have HJA := Lib.hid hja
    rcases own_form hown9.row with ⟨_, hn0, _⟩ | ⟨g, cap, hv9, hg1, hg2, _, rest, hblk⟩
    · omega
    injection hv9 with hA9 _ hc9
    subst hA9 hc9
    have HC := Lib.hid (fun W (h : Ext w9 W) => h.cell_ ((hblk.cell (j * 7)).trans ((flat_get Tsk.row 7 tsk_len rest l' j 0 _ (by omega) rfl) : _ = some (.int .u64 (gt l' j).id))))
    have hw1 : IntKind.i64.wrap (p - 1) = j := by rw [show p - 1 = (j : Int) by omega, IntKind.wrap_i64]; omega
    have hgt : 0 < p := by omega
    clear ha hpl hja hown9 hblk
    go_wp2_with (go_at_call 10; refine (refPlace_any (some ⟨g, 0, none⟩) c9 l' id _ HT9.out).mono ?_; rintro e w10 ⟨rfl, hb10⟩; rw [HPL.out]; have hcc := HC.out w10 hb10; rw [HJA.out] at hcc)
    go_ret
    refine ⟨?_, e9.tr hb10⟩
    simp
end Go.Proofs.Ytmomcknjcnmmeaa
