/- rank.Between. -/
import Derived.Test.YthhmbijblpjfpaaGreatFind
namespace Go.Proofs.YthhmbijblpjfpaaGreat
open Go.RowKit

noncomputable def loAt (l : List Tsk) (at_ : Int) : Nat := if 0 ≤ at_ then (gt l at_.toNat).rank else fOfBits 18442240474082181120
noncomputable def hiAt (l : List Tsk) (at_ : Int) : Nat := if at_ + 1 < l.length then (gt l (at_ + 1).toNat).rank else fOfBits 9218868437227405312

theorem rank_cell {w : World} {g : Nat} {l : List Tsk} {rest : List Value} (h : Blk w g 36 (l.flatMap Tsk.row ++ rest)) {k : Nat} (hk : k < l.length) : w.cell? ⟨g, k * 7 + 4, none⟩ = some (.float .f64 (gt l k).rank) :=
  (h.cell _).trans (flat_get Tsk.row 7 tsk_len rest l k 4 _ hk rfl)

set_option maxRecDepth 100000 in
theorem ends_neg (g c n : Nat) (l : List Tsk) (rest : List Value) (w : World) (hn : n = l.length) (h0 : 0 < n) (hl : n ≤ 1000000) (hB : Blk w g 36 (l.flatMap Tsk.row ++ rest)) :
    Calls Tryz.prog 67 #[.slice (some ⟨g, 0, none⟩) n c, .int .i64 (-1)] w fun e w' => e = .returned (.tuple #[.float .f64 (loAt l (-1)), .float .f64 (hiAt l (-1))]) ∧ w = w' := by
  have hc := rank_cell hB (k := 0) (by omega)
  have H := Lib.hid (show hiAt l (-1) = (gt l 0).rank by unfold hiAt; rw [if_pos (by omega)]; rfl)
  have H2 := Lib.hid (show loAt l (-1) = fOfBits 18442240474082181120 by unfold loAt; rw [if_neg (by omega)])
  obtain ⟨r, hr⟩ : ∃ r, r = (gt l 0).rank := ⟨_, rfl⟩
  rw [← hr] at hc H
  clear hr hB hn
  simp only [Nat.zero_mul, Nat.zero_add] at hc
  go_enter Tryz.func67, Tryz.ntmps67
  go_wp2_with (first
    | (go_at_call 110; (with_reducible refine (inf_neg _).mono ?_); rintro e w' ⟨rfl, rfl⟩)
    | (go_at_call 110; (with_reducible refine (inf_pos _).mono ?_); rintro e w' ⟨rfl, rfl⟩))
  go_ret2
  refine ⟨?_, rfl⟩
  rw [H.out, H2.out]
  rfl
set_option maxRecDepth 100000 in
theorem ends_at (g c n k : Nat) (va : Int) (l : List Tsk) (rest : List Value) (w : World) (hn : n = l.length) (hva : va = (k : Int)) (hk : k < n) (hl : n ≤ 1000000) (hB : Blk w g 36 (l.flatMap Tsk.row ++ rest)) :
    Calls Tryz.prog 67 #[.slice (some ⟨g, 0, none⟩) n c, .int .i64 va] w fun e w' => e = .returned (.tuple #[.float .f64 (loAt l va), .float .f64 (hiAt l va)]) ∧ w = w' := by
  subst hva
  have hc := rank_cell hB (k := k) (by omega)
  have H2 := Lib.hid (show loAt l (k : Int) = (gt l k).rank by unfold loAt; rw [if_pos (by omega)]; rfl)
  obtain ⟨r, hr⟩ : ∃ r, r = (gt l k).rank := ⟨_, rfl⟩
  rw [← hr] at hc H2
  by_cases h1 : k + 1 < n
  · have hc1 := rank_cell hB (k := k + 1) (by omega)
    have H := Lib.hid (show hiAt l (k : Int) = (gt l (k + 1)).rank by unfold hiAt; rw [if_pos (by omega)]; rfl)
    obtain ⟨q, hq⟩ : ∃ q, q = (gt l (k + 1)).rank := ⟨_, rfl⟩
    rw [← hq] at hc1 H
    clear hr hB hn hq
    go_enter Tryz.func67, Tryz.ntmps67
    go_wp2_with (first
      | (go_at_call 110; (with_reducible refine (inf_neg _).mono ?_); rintro e w' ⟨rfl, rfl⟩)
      | (go_at_call 110; (with_reducible refine (inf_pos _).mono ?_); rintro e w' ⟨rfl, rfl⟩))
    go_ret2
    refine ⟨?_, rfl⟩
    rw [H.out, H2.out]
    rfl
  · have H := Lib.hid (show hiAt l (k : Int) = fOfBits 9218868437227405312 by unfold hiAt; rw [if_neg (by omega)])
    clear hr hB hn
    go_enter Tryz.func67, Tryz.ntmps67
    go_wp2_with (first
      | (go_at_call 110; (with_reducible refine (inf_neg _).mono ?_); rintro e w' ⟨rfl, rfl⟩)
      | (go_at_call 110; (with_reducible refine (inf_pos _).mono ?_); rintro e w' ⟨rfl, rfl⟩))
    go_ret2
    refine ⟨?_, rfl⟩
    rw [H.out, H2.out]
    rfl

noncomputable def btw : Bool → (List Tsk) → Int → (Nat × Int) := Classical.choose (laid fun (has : Bool) (l : List Tsk) (after : Int) => (if !has then (0, 91) else if after ≠ 0 ∧ placeOf l after < 0 then (0, 93) else if l.length = 0 then (0, 0) else
    (fun m => if m.2 then (m.1, 0) else (0, 100)) (fMid (loAt l (if after = 0 then -1 else placeOf l after)) (hiAt l (if after = 0 then -1 else placeOf l after))) : Nat × Int))
theorem btw_eq (has : Bool) (l : List Tsk) (after : Int) : btw has l after = (if !has then (0, 91) else if after ≠ 0 ∧ placeOf l after < 0 then (0, 93) else if l.length = 0 then (0, 0) else
    (fun m => if m.2 then (m.1, 0) else (0, 100)) (fMid (loAt l (if after = 0 then -1 else placeOf l after)) (hiAt l (if after = 0 then -1 else placeOf l after))) : Nat × Int) := laid3 _ has l after


theorem placeOf_cases (l : List Tsk) (id : Int) : (placeOf l id = -1 ∧ ∀ t ∈ l, t.id ≠ id) ∨ ∃ k : Nat, placeOf l id = k ∧ k < l.length ∧ (gt l k).id = id := by
  rw [placeOf_eq]
  rcases firstAt_cases (fun t : Tsk => t.id == id) l with ⟨h1, h2, _⟩ | ⟨k, x, h1, h2, h3, _⟩
  · refine .inl ⟨h1, fun t ht e => ?_⟩
    rw [List.any_eq_false] at h2
    exact h2 t ht (by simpa using e)
  · have hk := (List.getElem?_eq_some_iff.1 h2).1
    refine .inr ⟨k, h1, hk, ?_⟩
    rw [gt_lt hk]
    rw [List.getElem?_eq_getElem hk] at h2
    injection h2 with h2
    rw [h2]
    simpa using h3

set_option maxRecDepth 100000 in
theorem between_any (s : Sta) (list after : Int) (w : World) (hs : s.ok w) (hn : s.tasks.length ≤ 1000) (ht : ∀ t ∈ s.tasks, t.tags.length ≤ 1000) :
    Calls Tryz.prog 20 #[s.val, .int .u64 list, .int .u64 after] w fun e w' => ∃ l : List Tsk, e = .returned (.tuple #[.float .f64 (btw (hasLst s.lists list) l after).1, .int .i64 (btw (hasLst s.lists list) l after).2]) ∧ Ext w w' ∧
      (hasLst s.lists list = true → (l.map Tsk.core).Perm ((s.tasks.filter fun t => t.list == list).map Tsk.core) ∧ Sd (ltc ordCf) l 0 l.length) := by
  by_cases hh : hasLst s.lists list = true
  · rw [hh]
    have HS := Lib.hid hs
    have HT := Lib.hid ht
    have HL := fun W h => Lib.hid (lists_any s list W (hs.ext h))
    rw [hh] at HL
    clear hs ht hh
    go_enter Tryz.func20, Tryz.ntmps20
    go_wp2_with (go_at_call 66; refine (HL _ (by exact Ext.rfl'.al _)).out.mono ?_; rintro e w1 ⟨rfl, hb1⟩; obtain ⟨hrc1, hrf1⟩ := Ext.rules hb1; have hz1 : w.heap.size < w1.heap.size := (Nat.lt_of_lt_of_le (by simp) hb1.size); have hbw1 : Ext w w1 := (Ext.rfl'.al _).tr hb1)
    refine (order_any s list _ (HS.out.ext (hbw1.al _)) hn HT.out).mono ?_
    rintro e w2 ⟨v, l, rfl, hO, hb2, hp, hsd⟩
    have hbw2 : Ext w w2 := (hbw1.al _).tr hb2
    have hll : l.length ≤ 1000 := by
      have h1 := hp.length_eq
      have h2 := List.length_filter_le (fun t : Tsk => t.list == list) s.tasks
      simp only [List.length_map] at h1
      omega
    have HB0 := btw_eq true l after
    rw [if_neg (by simp)] at HB0
    have HP := Lib.hid hp
    have HSD := Lib.hid hsd
    clear hp hsd
    by_cases hz : l.length = 0
    · have hnil : l = [] := List.eq_nil_of_length_eq_zero hz
      subst hnil
      obtain ⟨A, c, rfl⟩ := own_shape hO.row
      have hT : TsksAt w2 A [] := hO.tsks rfl (by simp)
      have hpl : placeOf [] after = -1 := by rw [placeOf_eq]; rfl
      by_cases ha : after = 0
      · have hd : (after != 0) = false := by simp [ha]
        have HB := Lib.hid (show btw true [] after = (0, 0) by rw [HB0, if_neg (by simp [ha])]; rfl)
        clear HB0 hO hz hpl ha hT
        go_wp2
        go_ret2
        refine ⟨[], ?_, hbw2, fun _ => ⟨HP.out, HSD.out⟩⟩
        rw [HB.out]
        rfl
      · have hd : (after != 0) = true := by simp [ha]
        have HB := Lib.hid (show btw true [] after = (0, 93) by rw [HB0, if_pos ⟨ha, by rw [hpl]; decide⟩])
        have HPL := Lib.hid hpl
        have HTT := Lib.hid hT
        clear HB0 hO hz hpl ha hT
        go_wp2_with (go_at_call 59; refine (place_any' A c [] after _ HTT.out).mono ?_; rw [HPL.out]; rintro e w3 ⟨rfl, hb3⟩)
        go_ret2
        refine ⟨[], ?_, hbw2.tr hb3, fun _ => ⟨HP.out, HSD.out⟩⟩
        rw [HB.out]
        rfl
    · rcases own_form hO.row with ⟨_, hn0, _⟩ | ⟨g, cap, rfl, _, _, _, rest, hblk⟩
      · exact absurd hn0 hz
      have hT : TsksAt w2 (some ⟨g, 0, none⟩) l := hO.tsks rfl (Nat.le_trans hll (by decide))
      have HTT := Lib.hid hT
      have HBK := Lib.hid hblk
      have hd0 : ((l.length : Int) == 0) = false := by rw [beq_eq_false_iff_ne]; omega
      have hpos : 0 < l.length := by omega
      by_cases ha : after = 0
      · have hd : (after != 0) = false := by simp [ha]
        rw [if_neg (by simp [ha]), if_neg hz, if_pos ha] at HB0
        have HB := Lib.hid HB0
        clear HB0 hO ha hT hblk hz
        go_wp2_with (first
          | (go_at_call 67; refine (ends_neg g cap l.length l rest _ rfl hpos (by omega) HBK.out).mono ?_; rintro e w4 ⟨rfl, rfl⟩)
          | (go_at_call 68; refine (mid_any _ _ _).mono ?_; rintro e w5 ⟨rfl, rfl⟩))
        · have hm : (fMid (loAt l (-1)) (hiAt l (-1))).2 = false := by simpa using ‹(!(fMid (loAt l (-1)) (hiAt l (-1))).2) = true›
          go_ret2
          refine ⟨l, ?_, hbw2, fun _ => ⟨HP.out, HSD.out⟩⟩
          rw [HB.out]
          simp [hm]
        · have hm : (fMid (loAt l (-1)) (hiAt l (-1))).2 = true := by simpa using ‹(!(fMid (loAt l (-1)) (hiAt l (-1))).2) = false›
          go_ret2
          refine ⟨l, ?_, hbw2, fun _ => ⟨HP.out, HSD.out⟩⟩
          rw [HB.out]
          simp [hm]
      · have hd : (after != 0) = true := by simp [ha]
        rcases placeOf_cases l after with ⟨hpl, _⟩ | ⟨k, hpl, hk, _⟩
        · rw [if_pos ⟨ha, by rw [hpl]; decide⟩] at HB0
          have HB := Lib.hid HB0
          have HPL := Lib.hid hpl
          clear HB0 hO ha hT hblk hz hpl
          go_wp2_with (go_at_call 59; refine (place_any' _ cap l after _ HTT.out).mono ?_; rw [HPL.out]; rintro e w3 ⟨rfl, hb3⟩)
          go_ret2
          refine ⟨l, ?_, hbw2.tr hb3, fun _ => ⟨HP.out, HSD.out⟩⟩
          rw [HB.out]
          rfl
        · rw [if_neg (fun h => by have := h.2; omega), if_neg hz, if_neg ha, hpl] at HB0
          have HB := Lib.hid HB0
          have HPL := Lib.hid hpl
          clear HB0 hO ha hT hblk hz hpl
          go_wp2_with (first
            | (go_at_call 59; refine (place_any' _ cap l after _ HTT.out).mono ?_; rw [HPL.out]; rintro e w3 ⟨rfl, hb3⟩; have HBK3 := Lib.hid (HBK.out.ext hb3))
            | (go_at_call 67; refine (ends_at g cap l.length k _ l rest _ rfl rfl hk (by omega) HBK3.out).mono ?_; rintro e w4 ⟨rfl, rfl⟩)
            | (go_at_call 68; refine (mid_any _ _ _).mono ?_; rintro e w5 ⟨rfl, rfl⟩))
          · have hm : (fMid (loAt l k) (hiAt l k)).2 = false := by simpa using ‹(!(fMid (loAt l k) (hiAt l k)).2) = true›
            go_ret2
            refine ⟨l, ?_, hbw2.tr hb3, fun _ => ⟨HP.out, HSD.out⟩⟩
            rw [HB.out]
            simp [hm]
          · have hm : (fMid (loAt l k) (hiAt l k)).2 = true := by simpa using ‹(!(fMid (loAt l k) (hiAt l k)).2) = false›
            go_ret2
            refine ⟨l, ?_, hbw2.tr hb3, fun _ => ⟨HP.out, HSD.out⟩⟩
            rw [HB.out]
            simp [hm]
  · have hh' : hasLst s.lists list = false := by simpa using hh
    rw [hh']
    have HL := fun W h => Lib.hid (lists_any s list W (hs.ext h))
    rw [hh'] at HL
    have HB := Lib.hid (show ∀ l, btw false l after = (0, 91) from fun l => by rw [btw_eq]; rfl)
    clear hs ht hh
    go_enter Tryz.func20, Tryz.ntmps20
    go_wp2_with (go_at_call 66; refine (HL _ (by exact Ext.rfl'.al _)).out.mono ?_; rintro e w1 ⟨rfl, hb1⟩; obtain ⟨hrc1, hrf1⟩ := Ext.rules hb1; have hz1 : w.heap.size < w1.heap.size := (Nat.lt_of_lt_of_le (by simp) hb1.size); have hbw1 : Ext w w1 := (Ext.rfl'.al _).tr hb1)
    go_ret2
    refine ⟨[], ?_, hbw1.al _, fun h => by simp at h⟩
    rw [HB.out]
    rfl
end Go.Proofs.YthhmbijblpjfpaaGreat
