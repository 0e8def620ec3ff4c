/- What is wrong with a task, with a state. -/
import Derived.Test.YthhmbijblpjfpaaGreatData2
namespace Go.Proofs.YthhmbijblpjfpaaGreat
open Go.RowKit

noncomputable def oneErr : (List Lst) → Tsk → Int := Classical.choose (laid fun (l : List Lst) (t : Tsk) => (if !hasLst l t.list then 91 else if !titleOk t.title then 94 else if fNan t.rank || !isCanon t.rank then 100 else if !isCanon t.est then 90 else tagsErr t.tags : Int))
theorem oneErr_eq (l : List Lst) (t : Tsk) : oneErr l t = (if !hasLst l t.list then 91 else if !titleOk t.title then 94 else if fNan t.rank || !isCanon t.rank then 100 else if !isCanon t.est then 90 else tagsErr t.tags : Int) := laid2 _ l t


theorem one_any (s : Sta) (t : Tsk) (w : World) (hs : s.ok w) (ht : t.ok w) :
    Calls Tryz.prog 57 #[s.val, t.val] w fun e w' => e = .returned (.int .i64 (oneErr s.lists t)) ∧ Ext w w' := by
  have HS := Lib.hid hs
  have HT := Lib.hid ht
  have HO := Lib.hid (oneErr_eq s.lists t)
  clear hs ht
  have hn : (FloatKind.f64.format.order t.rank t.rank != some Ordering.eq) = fNan t.rank := rfl
  generalize fNan t.rank = nan at *
  go_enter Tryz.func57, Tryz.ntmps57
  go_wp2_with (first
    | (go_at_call 66; refine (lists_any s t.list _ (HS.out.ext (by exact (Ext.rfl'.al _).al _))).mono ?_; rintro e w1 ⟨rfl, hb1⟩; obtain ⟨hrc1, hrf1⟩ := Ext.rules hb1; have hz1 : w.heap.size + 1 < w1.heap.size := (Nat.lt_of_lt_of_le (by simp) hb1.size); have hz0 : w.heap.size < w1.heap.size := (by omega); have hbw1 : Ext w w1 := ((Ext.rfl'.al _).al _).tr hb1)
    | (go_at_call 56; refine (title_any _ _).mono ?_; rintro e w2 ⟨rfl, hb2⟩; obtain ⟨hrc2, hrf2⟩ := Ext.rules hb2; have hbw2 : Ext w w2 := (hbw1.al _).tr hb2)
    | (go_at_call 95; refine (tcanon_any _ _).mono ?_; rintro e w3 ⟨rfl, rfl⟩)
    | (go_at_call 96; refine (tags_any _ _ _ _ HT.out.few ((hbw2.rows HT.out.rows))).mono ?_; rintro e w4 ⟨rfl, hb4⟩))
  · go_ret
    refine ⟨?_, hbw1.al _⟩
    rw [HO.out]
    simp [*]
  all_goals first
    | (go_ret; refine ⟨?_, hbw2.tr hb4⟩; rw [HO.out]; simp [*]; done)
    | (go_ret; refine ⟨?_, hbw2⟩; rw [HO.out]; simp [*]; done)

noncomputable def lstErr (ahead : Int) : List Lst → Int
  | [] => 0
  | l :: ls => if l.id ≤ ahead then 91 else if !titleOk l.name then 94 else lstErr l.id ls
noncomputable def tskErr (L : List Lst) (ahead : Int) : List Tsk → Int
  | [] => 0
  | t :: ts => if t.id ≤ ahead then 93 else if oneErr L t != 0 then oneErr L t else tskErr L t.id ts
noncomputable def lstsErr : (List Lst) → Int := Classical.choose (laid fun (l : List Lst) => (lstErr 0 l : Int))
theorem lstsErr_eq (l : List Lst) : lstsErr l = (lstErr 0 l : Int) := laid1 _ l


noncomputable def tsksErr : (List Lst) → (List Tsk) → Int := Classical.choose (laid fun (L : List Lst) (l : List Tsk) => (tskErr L 0 l : Int))
theorem tsksErr_eq (L : List Lst) (l : List Tsk) : tsksErr L l = (tskErr L 0 l : Int) := laid2 _ L l


noncomputable def rightErr : (List Lst) → (List Tsk) → Int := Classical.choose (laid fun (l : List Lst) (ts : List Tsk) => (if 20 < l.length then 95 else if 60 < ts.length then 95 else if lstsErr l != 0 then lstsErr l else tsksErr l ts : Int))
theorem rightErr_eq (l : List Lst) (ts : List Tsk) : rightErr l ts = (if 20 < l.length then 95 else if 60 < ts.length then 95 else if lstsErr l != 0 then lstsErr l else tsksErr l ts : Int) := laid2 _ l ts


theorem right_any (s : Sta) (w : World) (hs : s.ok w) : Calls Tryz.prog 17 #[s.val] w fun e w' => e = .returned (.int .i64 (rightErr s.lists s.tasks)) ∧ Ext w w' := by
  have HO := Lib.hid (rightErr_eq s.lists s.tasks)
  by_cases h1 : 20 < s.lists.length
  · have HO := Lib.hid (show rightErr s.lists s.tasks = 95 by rw [HO.out, if_pos h1])
    go_enter Tryz.func17, Tryz.ntmps17
    go_wp2
    go_ret
    refine ⟨?_, Ext.rfl'.al _⟩
    rw [HO.out]
    rfl
  by_cases h2 : 60 < s.tasks.length
  · have HO := Lib.hid (show rightErr s.lists s.tasks = 95 by rw [HO.out, if_neg h1, if_pos h2])
    go_enter Tryz.func17, Tryz.ntmps17
    go_wp2
    go_ret
    refine ⟨?_, Ext.rfl'.al _⟩
    rw [HO.out]
    rfl
  have HO := Lib.hid (show rightErr s.lists s.tasks = if lstsErr s.lists != 0 then lstsErr s.lists else tsksErr s.lists s.tasks by rw [HO.out, if_neg h1, if_neg h2])
  have HS := Lib.hid hs
  clear hs
  go_enter Tryz.func17, Tryz.ntmps17
  go_wp2
  go_loopw [3, 22] (fun p i wr => ∃ (k : Nat) (a : Int), k ≤ s.lists.length ∧ i = .int .i64 k ∧ p = .int .u64 a ∧ Ext (w.alloc (.cells #[.slice s.lA s.lists.length s.lC, .slice s.tA s.tasks.length s.tC] 25)) wr ∧ lstsErr s.lists = lstErr a (s.lists.drop k)) (fun _ i _ => s.lists.length - (intOf i).toNat)
  case atStart => exact ⟨0, 0, Nat.zero_le _, rfl, rfl, Ext.rfl', by rw [lstsErr_eq]; rfl⟩
  case round =>
    obtain ⟨k, a, hk, rfl, rfl, hb, hrest⟩ := hrel
    have hbw : Ext w wr := (Ext.rfl'.al _).tr hb
    by_cases hlt : k < s.lists.length
    · obtain ⟨ad, x, hA, hx, hc⟩ := HS.out.lists.at_ hlt
      have hd : s.lists.drop k = x :: s.lists.drop (k + 1) := by
        rw [List.drop_eq_getElem_cons hlt]
        rw [List.getElem?_eq_getElem hlt] at hx
        injection hx with hx
        rw [hx]
      have HR := Lib.hid (hrest.trans (congrArg (lstErr a) hd))
      have hcr := hbw.cells hc
      obtain ⟨sl, st, lA, lC, tA, tC⟩ := s
      dsimp only at hA
      subst hA
      clear hx hd hrest hc
      go_wp2_with (first
        | (refine wpList_load_cells rfl 50 (.tmp 24) rfl (ad.add (k * 2)) (Lst.row x) rfl _ hcr Tryz.underlying50 rfl lst_size ?_)
        | (go_at_call 56; refine (title_any _ _).mono ?_; rintro e w2 ⟨rfl, hb2⟩; obtain ⟨hrc2, hrf2⟩ := Ext.rules hb2; have hbw2 : Ext w w2 := (hbw.al _).tr hb2))
      · have hle : x.id ≤ a := by assumption
        go_ret
        refine ⟨?_, hbw.al _⟩
        have h9 : lstsErr sl = 91 := by rw [HR.out]; simp [lstErr, hle]
        have HO' := HO.out
        rw [HO', h9]
        rfl
      · have hle : ¬ x.id ≤ a := by omega
        have ht : (!titleOk x.name) = true := by assumption
        go_ret
        refine ⟨?_, hbw2⟩
        have h9 : lstsErr sl = 94 := by rw [HR.out, lstErr, if_neg hle, if_pos ht]
        have HO' := HO.out
        rw [HO', h9]
        rfl
      · have hle : ¬ x.id ≤ a := by omega
        have ht : ¬ (!titleOk x.name) = true := by simp [*]
        go_roundw
        case rel => exact ⟨k + 1, x.id, by omega, by go_num, rfl, (hb.al _).tr hb2, by rw [HR.out, lstErr, if_neg hle, if_neg ht]⟩
        case measure => simp [intOf]; omega
    · have h0 : lstsErr s.lists = 0 := by rw [hrest, List.drop_eq_nil_of_le (by omega)]; rfl
      have HR := Lib.hid (show rightErr s.lists s.tasks = tsksErr s.lists s.tasks by rw [HO.out, h0]; rfl)
      clear hrest h0 HO
      obtain ⟨hrc0, hrf0⟩ := Ext.rules hb
      have hz0 : w.heap.size < wr.heap.size := Nat.lt_of_lt_of_le (by simp) hb.size
      go_wp2
      have hsf := store_float
      go_loopw [3, 40] (fun p i wr => ∃ (k : Nat) (a : Int), k ≤ s.tasks.length ∧ i = .int .i64 k ∧ p = .int .u64 a ∧ Ext (w.alloc (.cells #[.slice s.lA s.lists.length s.lC, .slice s.tA s.tasks.length s.tC] 25)) wr ∧ tsksErr s.lists s.tasks = tskErr s.lists a (s.tasks.drop k)) (fun _ i _ => s.tasks.length - (intOf i).toNat)
      case atStart => exact ⟨0, 0, Nat.zero_le _, rfl, rfl, hb, by rw [tsksErr_eq]; rfl⟩
      case round =>
        clear hrc0 hrf0 hz0 hb hbw hlt hk
        obtain ⟨k, a, hk, rfl, rfl, hb, hrest⟩ := hrel
        have hbw : Ext w wr := (Ext.rfl'.al _).tr hb
        obtain ⟨hrc0, hrf0⟩ := Ext.rules hb
        have hz0 : w.heap.size < wr.heap.size := Nat.lt_of_lt_of_le (by simp) hb.size
        by_cases hlt : k < s.tasks.length
        · obtain ⟨ad, x, hA, hx, hxo, hc⟩ := HS.out.tasks.at_ hlt
          have hd : s.tasks.drop k = x :: s.tasks.drop (k + 1) := by
            rw [List.drop_eq_getElem_cons hlt]
            rw [List.getElem?_eq_getElem hlt] at hx
            injection hx with hx
            rw [hx]
          have HR2 := Lib.hid (hrest.trans (congrArg (tskErr s.lists a) hd))
          have hcr := hbw.cells hc
          have HXO := Lib.hid hxo
          have HOne := fun W h => Lib.hid (one_any s x W (HS.out.ext h) (hxo.ext h))
          obtain ⟨sl, st, lA, lC, tA, tC⟩ := s
          dsimp only at hA
          subst hA
          clear hx hd hrest hc hxo
          go_wp2_with (first
            | (refine wpList_load_cells rfl 36 (.tmp 42) rfl (ad.add (k * 7)) (Tsk.row x) rfl _ hcr Tryz.underlying36 rfl tsk_size ?_)
            | (go_at_call 57; refine (HOne _ (hbw.al _)).out.mono ?_; rintro e w2 ⟨rfl, hb2⟩; obtain ⟨hrc2, hrf2⟩ := Ext.rules hb2; have hbw2 : Ext w w2 := (hbw.al _).tr hb2))
          · have hle : x.id ≤ a := by assumption
            go_ret
            refine ⟨?_, hbw.al _⟩
            have h9 : tsksErr sl st = 93 := by rw [HR2.out, tskErr, if_pos hle]
            have HR' := HR.out
            rw [HR', h9]
            rfl
          · have hle : ¬ x.id ≤ a := by omega
            have ht : (oneErr sl x != 0) = true := by assumption
            go_ret
            refine ⟨?_, hbw2⟩
            have h9 : tsksErr sl st = oneErr sl x := by rw [HR2.out, tskErr, if_neg hle, if_pos ht]
            have HR' := HR.out
            rw [HR', h9]
            rfl
          · have hle : ¬ x.id ≤ a := by omega
            have ht : ¬ (oneErr sl x != 0) = true := by simp [*]
            go_roundw
            case rel => exact ⟨k + 1, x.id, by omega, by go_num, rfl, (hb.al _).tr hb2, by rw [HR2.out, tskErr, if_neg hle, if_neg ht]⟩
            case measure => simp [intOf]; omega
        · have h0 : tsksErr s.lists s.tasks = 0 := by rw [hrest, List.drop_eq_nil_of_le (by omega)]; rfl
          have H0 := Lib.hid h0
          clear hrest h0
          go_wp2
          go_ret
          refine ⟨?_, hbw⟩
          rw [HR.out, H0.out]
          rfl
end Go.Proofs.YthhmbijblpjfpaaGreat
