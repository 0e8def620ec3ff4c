/- Tasks by their Ids, and where they stand. -/
import Derived.Test.YthhmbijblpjfpaaGreatLight
namespace Go.Proofs.YthhmbijblpjfpaaGreat
open Go.RowKit

theorem indexFunc_tsk (A : Option Addr) (c : Nat) (l : List Tsk) (F : Nat) (caps : Array Value) (p : Tsk → Bool) (w : World)
    (hF : ∀ args w, Sem.run Tryz.prog (callFunc F args) w = .ok (.enter F args) w) (hr : TsksAt w A l)
    (hp : ∀ x w', Ext w w' → Calls Tryz.prog F (#[Tsk.val x] ++ caps) w' fun e w'' => e = .returned (.bool (p x)) ∧ Ext w' w'') :
    Calls Tryz.prog 102 #[.slice A l.length c, .func (.func F) #[] caps] w
      fun e w' => e = .returned (.int .i64 (firstAt p l)) ∧ Ext w w' := by
  have hn := hr.few
  go_enter Tryz.func102, Tryz.ntmps102
  go_wp2
  go_loopw [8] (fun i wr => ∃ k : Nat, k ≤ l.length ∧ i = .int .i64 k ∧ Ext w wr ∧ ∀ (i : Nat) r, i < k → l[i]? = some r → p r = false) (fun i _ => l.length - (intOf i).toNat)
  case atStart => exact ⟨0, Nat.zero_le _, rfl, Ext.rfl', fun i r hi => absurd hi (by omega)⟩
  case round =>
    obtain ⟨k, hk, rfl, hb, hall⟩ := hrel
    by_cases hlt : k < l.length
    · obtain ⟨ad, x, rfl, hx, _, hc⟩ := hr.at_ hlt
      have hc' := hb.cells hc
      have HX := Lib.hid hx
      have HP := Lib.hid (hp x wr hb)
      have HA := Lib.hid hall
      clear hx hp hall hr hc
      go_wp2_with (first
        | (refine wpList_load_cells rfl 36 (.tmp 14) rfl (ad.add (k * 7)) (Tsk.row x) rfl _ hc' Tryz.underlying36 rfl tsk_size ?_)
        | ((with_reducible refine HP.out.mono ?_); rintro e w1 ⟨rfl, hb1⟩))
      · go_ret
        refine ⟨?_, hb.tr hb1⟩
        rw [firstAt_hit p l k HA.out x HX.out (by assumption)]
        rfl
      · go_roundw
        case rel =>
          refine ⟨k + 1, by omega, by go_num, hb.tr hb1, fun i r hi hr => ?_⟩
          by_cases h : i < k
          · exact HA.out i r h hr
          · obtain rfl : i = k := by omega
            rw [HX.out] at hr
            injection hr with hr
            subst hr
            assumption
        case measure => simp [intOf]; omega
    · have H := Lib.hid hall
      clear hall hp hr
      go_wp2
      go_ret
      refine ⟨?_, hb⟩
      rw [firstAt_none p l (fun i r hi => H.out i r (by have := (List.getElem?_eq_some_iff.1 hi).1; omega) hi)]
      rfl

noncomputable def placeOf : (List Tsk) → Int → Int := Classical.choose (laid fun (l : List Tsk) (id : Int) => (firstAt (fun t => t.id == id) l : Int))
theorem placeOf_eq (l : List Tsk) (id : Int) : placeOf l id = (firstAt (fun t => t.id == id) l : Int) := laid2 _ l id


theorem place1_any (t : Tsk) (b : Nat) (id : Int) (w : World) (hc : w.cell? ⟨b, 0, none⟩ = some (.int .u64 id)) :
    Calls Tryz.prog 103 #[t.val, .pointer (some ⟨b, 0, none⟩)] w fun e w' => e = .returned (.bool (t.id == id)) ∧ Ext w w' := by
  have hlt := World.block_lt_of_cell? _ _ hc
  go_enter Tryz.func103, Tryz.ntmps103
  go_wp2
  go_ret
  exact ⟨rfl, Ext.rfl'.al _⟩
set_option maxRecDepth 100000 in
theorem enters_place1 (args : Array Value) (w : World) : Sem.run Tryz.prog (callFunc 103 args) w = .ok (.enter 103 args) w := by
  simp only [callFunc, go_sem, Tryz.func103]
  rfl
theorem place_any' (A : Option Addr) (c : Nat) (l : List Tsk) (id : Int) (w : World) (hr : TsksAt w A l) :
    Calls Tryz.prog 59 #[.slice A l.length c, .int .u64 id] w fun e w' => e = .returned (.int .i64 (placeOf l id)) ∧ Ext w w' := by
  have HI := fun W (h : TsksAt W A l) hp => Lib.hid (indexFunc_tsk A c l 103 #[.pointer (some ⟨w.heap.size, 0, none⟩)] (fun x : Tsk => x.id == id) W enters_place1 h hp)
  rw [← placeOf_eq] at HI
  have HR := Lib.hid hr
  clear hr
  go_enter Tryz.func59, Tryz.ntmps59
  go_wp2_with (go_at_call 102; refine (HI _ (HR.out.ext (by exact Ext.rfl'.al _)) (fun x w' h => place1_any x _ id w' (h.cell_ (by simp [go_sem])))).out.mono ?_; rintro e w1 ⟨rfl, hb1⟩)
  go_ret
  refine ⟨?_, (Ext.rfl'.al _).tr hb1⟩
  rfl
def noTsk : Tsk := ⟨0, 0, ⟨#[]⟩, false, 0, 0, [], none, 0⟩
noncomputable def findTsk : (List Tsk) → Int → Tsk := Classical.choose (laid fun (l : List Tsk) (id : Int) => ((l.find? fun x => x.id == id).getD noTsk : Tsk))
theorem findTsk_eq (l : List Tsk) (id : Int) : findTsk l id = ((l.find? fun x => x.id == id).getD noTsk : Tsk) := laid2 _ l id


noncomputable def hasTsk : (List Tsk) → Int → Bool := Classical.choose (laid fun (l : List Tsk) (id : Int) => (l.any fun x => x.id == id : Bool))
theorem hasTsk_eq (l : List Tsk) (id : Int) : hasTsk l id = (l.any fun x => x.id == id : Bool) := laid2 _ l id


theorem Blk.new1 (w : World) (o : Obj) (T : TypeId) (cs : List Value) : Blk ((w.alloc o).alloc (.cells cs.toArray T)) (w.heap.size + 1) T cs := by simpa using Blk.new (w.alloc o) T cs
end Go.Proofs.YthhmbijblpjfpaaGreat
