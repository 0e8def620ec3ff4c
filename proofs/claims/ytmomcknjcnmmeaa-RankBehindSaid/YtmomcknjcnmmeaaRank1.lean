/- Tasks by their Ids, and where they stand. -/
import Derived.Test.YtmomcknjcnmmeaaLight
namespace Go.Proofs.Ytmomcknjcnmmeaa
open Go.RowKit

theorem indexFunc_tsk (A : Option Addr) (c : Nat) (l : List Tsk) (F : Nat) (caps : Array Value) (p : Tsk → Bool) (w : World)
    (hF : ∀ args w, Sem.run Try.prog (callFunc F args) w = .ok (.enter F args) w) (hr : TsksAt w A l)
    (hp : ∀ x w', Ext w w' → Calls Try.prog F (#[Tsk.val x] ++ caps) w' fun e w'' => e = .returned (.bool (p x)) ∧ Ext w' w'') :
    Calls Try.prog 33 #[.slice A l.length c, .func (.func F) #[] caps] w
      fun e w' => e = .returned (.int .i64 (firstAt p l)) ∧ Ext w w' := by
  have hn := hr.few
  go_enter Try.func33, Try.ntmps33
  go_wp2
  go_loopw [8] (fun i wr => ∃ k : Nat, k ≤ l.length ∧ i = .int .i64 k ∧ Ext w wr ∧ ∀ (i : Nat) r, i < k → l[i]? = some r → p r = false) (fun i _ => l.length - (intOf i).toNat)
  case atStart => exact ⟨0, Nat.zero_le _, rfl, Ext.rfl', fun i r hi => absurd hi (by omega)⟩
  case round =>
    obtain ⟨k, hk, rfl, hb, hall⟩ := hrel
    by_cases hlt : k < l.length
    · obtain ⟨ad, x, rfl, hx, _, hc⟩ := hr.at_ hlt
      have hc' := hb.cells hc
      have HX := Lib.hid hx
      have HP := Lib.hid (hp x wr hb)
      have HA := Lib.hid hall
      clear hx hp hall hr hc
      go_wp2_with (first
        | (refine wpList_load_cells rfl 34 (.tmp 14) rfl (ad.add (k * 7)) (Tsk.row x) rfl _ hc' Try.underlying34 rfl tsk_size ?_)
        | ((with_reducible refine HP.out.mono ?_); rintro e w1 ⟨rfl, hb1⟩))
      · go_ret
        refine ⟨?_, hb.tr hb1⟩
        rw [firstAt_hit p l k HA.out x HX.out (by assumption)]
        rfl
      · go_roundw
        case rel =>
          refine ⟨k + 1, by omega, by go_num, hb.tr hb1, fun i r hi hr => ?_⟩
          by_cases h : i < k
          · exact HA.out i r h hr
          · obtain rfl : i = k := by omega
            rw [HX.out] at hr
            injection hr with hr
            subst hr
            assumption
        case measure => simp [intOf]; omega
    · have H := Lib.hid hall
      clear hall hp hr
      go_wp2
      go_ret
      refine ⟨?_, hb⟩
      rw [firstAt_none p l (fun i r hi => H.out i r (by have := (List.getElem?_eq_some_iff.1 hi).1; omega) hi)]
      rfl

noncomputable def placeOf : (List Tsk) → Int → Int := Classical.choose (laid fun (l : List Tsk) (id : Int) => (firstAt (fun t => t.id == id) l : Int))
theorem placeOf_eq (l : List Tsk) (id : Int) : placeOf l id = (firstAt (fun t => t.id == id) l : Int) := laid2 _ l id


theorem place1_any (t : Tsk) (b : Nat) (id : Int) (w : World) (hc : w.cell? ⟨b, 0, none⟩ = some (.int .u64 id)) :
    Calls Try.prog 34 #[t.val, .pointer (some ⟨b, 0, none⟩)] w fun e w' => e = .returned (.bool (t.id == id)) ∧ Ext w w' := by
  have hlt := World.block_lt_of_cell? _ _ hc
  go_enter Try.func34, Try.ntmps34
  go_wp2
  go_ret
  exact ⟨rfl, Ext.rfl'.al _⟩
theorem enters_place1 (args : Array Value) (w : World) : Sem.run Try.prog (callFunc 34 args) w = .ok (.enter 34 args) w := by
  simp only [callFunc, go_sem, Try.func34]
  rfl
theorem place_any' (A : Option Addr) (c : Nat) (l : List Tsk) (id : Int) (w : World) (hr : TsksAt w A l) :
    Calls Try.prog 16 #[.slice A l.length c, .int .u64 id] w fun e w' => e = .returned (.int .i64 (placeOf l id)) ∧ Ext w w' := by
  have HI := fun W (h : TsksAt W A l) hp => Lib.hid (indexFunc_tsk A c l 34 #[.pointer (some ⟨w.heap.size, 0, none⟩)] (fun x : Tsk => x.id == id) W enters_place1 h hp)
  rw [← placeOf_eq] at HI
  have HR := Lib.hid hr
  clear hr
  go_enter Try.func16, Try.ntmps16
  go_wp2_with (go_at_call 33; refine (HI _ (HR.out.ext (by exact Ext.rfl'.al _)) (fun x w' h => place1_any x _ id w' (h.cell_ (by simp [go_sem])))).out.mono ?_; rintro e w1 ⟨rfl, hb1⟩)
  go_ret
  refine ⟨?_, (Ext.rfl'.al _).tr hb1⟩
  rfl
theorem refPlace_any (A : Option Addr) (c : Nat) (l : List Tsk) (id : Int) (w : World) (hr : TsksAt w A l) :
    Calls Try.prog 10 #[.slice A l.length c, .int .u64 id] w fun e w' => e = .returned (.int .i64 (placeOf l id)) ∧ Ext w w' := by
  have hn := hr.few
  have hsf := store_float
  have HO := Lib.hid (placeOf_eq l id)
  go_enter Try.func10, Try.ntmps10
  go_wp2
  go_loopw [9] (fun i wr => ∃ k : Nat, k ≤ l.length ∧ i = .int .i64 k ∧ Ext w wr ∧ ∀ (i : Nat) r, i < k → l[i]? = some r → (r.id == id) = false) (fun i _ => l.length - (intOf i).toNat)
  case atStart => exact ⟨0, Nat.zero_le _, rfl, Ext.rfl', fun i r hi => absurd hi (by omega)⟩
  case round =>
    obtain ⟨k, hk, rfl, hb, hall⟩ := hrel
    by_cases hlt : k < l.length
    · obtain ⟨ad, x, rfl, hx, _, hc⟩ := hr.at_ hlt
      have hc' := hb.cells hc
      have HX := Lib.hid hx
      have HA := Lib.hid hall
      clear hx hall hr hc
      go_wp2_with (refine wpList_load_cells rfl 34 (.tmp 12) rfl (ad.add (k * 7)) (Tsk.row x) rfl _ hc' Try.underlying34 rfl tsk_size ?_)
      · go_ret
        refine ⟨?_, hb.al _⟩
        rw [HO.out, firstAt_hit (fun t : Tsk => t.id == id) l k HA.out x HX.out (by assumption)]
        rfl
      · go_roundw
        case rel =>
          refine ⟨k + 1, by omega, by go_num, hb.al _, fun i r hi hr => ?_⟩
          by_cases h : i < k
          · exact HA.out i r h hr
          · obtain rfl : i = k := by omega
            rw [HX.out] at hr
            injection hr with hr
            subst hr
            assumption
        case measure => simp [intOf]; omega
    · have H := Lib.hid hall
      clear hall hr
      go_wp2
      go_ret
      refine ⟨?_, hb⟩
      rw [HO.out, firstAt_none (fun t : Tsk => t.id == id) l (fun i r hi => H.out i r (by have := (List.getElem?_eq_some_iff.1 hi).1; omega) hi)]
      rfl

def noTsk : Tsk := ⟨0, 0, ⟨#[]⟩, false, 0, 0, [], none, 0⟩
noncomputable def findTsk : (List Tsk) → Int → Tsk := Classical.choose (laid fun (l : List Tsk) (id : Int) => ((l.find? fun x => x.id == id).getD noTsk : Tsk))
theorem findTsk_eq (l : List Tsk) (id : Int) : findTsk l id = ((l.find? fun x => x.id == id).getD noTsk : Tsk) := laid2 _ l id


noncomputable def hasTsk : (List Tsk) → Int → Bool := Classical.choose (laid fun (l : List Tsk) (id : Int) => (l.any fun x => x.id == id : Bool))
theorem hasTsk_eq (l : List Tsk) (id : Int) : hasTsk l id = (l.any fun x => x.id == id : Bool) := laid2 _ l id


theorem Blk.new1 (w : World) (o : Obj) (T : TypeId) (cs : List Value) : Blk ((w.alloc o).alloc (.cells cs.toArray T)) (w.heap.size + 1) T cs := by simpa using Blk.new (w.alloc o) T cs
theorem refTask_any (s : Sta) (id : Int) (w : World) (hs : s.ok w) :
    Calls Try.prog 7 #[s.val, .int .u64 id] w fun e w' => e = .returned (.tuple #[(findTsk s.tasks id).val, .bool (hasTsk s.tasks id)]) ∧ Ext w w' := by
  have hn := hs.tasks.few
  have hsf := store_float
  have HF := Lib.hid (findTsk_eq s.tasks id)
  have HH := Lib.hid (hasTsk_eq s.tasks id)
  have HS := Lib.hid hs
  clear hs
  go_enter Try.func7, Try.ntmps7
  go_wp2
  go_loopw [11] (fun i wr => ∃ k : Nat, k ≤ s.tasks.length ∧ i = .int .i64 k ∧ Ext w wr ∧ Blk wr (w.heap.size + 1) 34 (Tsk.row noTsk) ∧
      (s.tasks.find? fun x => x.id == id) = ((s.tasks.drop k).find? fun x => x.id == id) ∧ (s.tasks.any fun x => x.id == id) = ((s.tasks.drop k).any fun x => x.id == id)) (fun i _ => s.tasks.length - (intOf i).toNat)
  case atStart => exact ⟨0, Nat.zero_le _, rfl, (Ext.rfl'.al _).al _, Blk.new1 w _ 34 (Tsk.row noTsk), rfl, rfl⟩
  case round =>
    obtain ⟨k, hk, rfl, hb, hblk, hf, ha⟩ := hrel
    by_cases hlt : k < s.tasks.length
    · obtain ⟨ad, x, hA, hx, hxo, hc⟩ := HS.out.tasks.at_ hlt
      rw [drop_cons hx, List.find?_cons] at hf
      rw [drop_cons hx, List.any_cons] at ha
      have HFk := Lib.hid hf
      have HAk := Lib.hid ha
      have hcr := hb.cells hc
      have HB := Lib.hid hblk
      obtain ⟨sl, st, lA, lC, tA, tC⟩ := s
      dsimp only at hA hlt hk hn
      subst hA
      clear hf ha hx hc hblk
      go_wp2_with (first
        | (refine wpList_load_cells rfl 34 (.tmp 13) rfl (ad.add (k * 7)) (Tsk.row x) rfl _ hcr Try.underlying34 rfl tsk_size ?_)
        | (refine wpList_store_agg rfl 34 (.tmp 4) (.tmp 19) rfl _ 0 34 _ (Tsk.row x) rfl rfl (HB.out.al _) (by simp) tsk_size (by simp [Value.oneCell']) ?_; intro w1 hb1 ho1))
      · have he : (x.id == id) = true := by assumption
        refine bodyPost_cell_tmp (cs := Tsk.row x) rfl rfl (by simpa [splice] using hb1) Try.underlying34 rfl tsk_size rfl ⟨?_, ?_⟩
        · rw [HF.out, HH.out, HFk.out, HAk.out]
          simp [he]
        · exact (hb.al _).only (by omega) ho1
      · have he : (x.id == id) = false := by assumption
        go_roundw
        case rel => exact ⟨k + 1, by omega, by go_num, hb.al _, HB.out.al _, by rw [HFk.out]; simp [he], by rw [HAk.out]; simp [he]⟩
        case measure => simp [intOf]; omega
    · have h1 : (s.tasks.find? fun x => x.id == id) = none := by rw [hf, List.drop_eq_nil_of_le (by omega)]; rfl
      have h2 : (s.tasks.any fun x => x.id == id) = false := by rw [ha, List.drop_eq_nil_of_le (by omega)]; rfl
      have H1 := Lib.hid h1
      have H2 := Lib.hid h2
      have HB := Lib.hid hblk
      clear hf ha h1 h2 hblk
      go_wp2_with (refine wpList_store_agg rfl 34 (.tmp 4) (.tmp 21) rfl _ 0 34 _ (Tsk.row noTsk) rfl rfl HB.out (by simp) tsk_size (by simp [Value.oneCell']) ?_; intro w1 hb1 ho1)
      refine bodyPost_cell_tmp (cs := Tsk.row noTsk) rfl rfl (by simpa [splice] using hb1) Try.underlying34 rfl tsk_size rfl ⟨?_, ?_⟩
      · rw [HF.out, HH.out, H1.out, H2.out]
        rfl
      · exact hb.only (by omega) ho1
end Go.Proofs.Ytmomcknjcnmmeaa
