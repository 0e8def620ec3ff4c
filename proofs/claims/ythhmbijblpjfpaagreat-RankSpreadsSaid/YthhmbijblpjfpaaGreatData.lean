/- Lists, tasks, states: their cells, and how they lie in memory. -/
import Derived.Test.YthhmbijblpjfpaaGreatTask2
namespace Go.Proofs.YthhmbijblpjfpaaGreat
open Go.RowKit

structure Lst where
  id : Int
  name : ByteArray

structure Tsk where
  id : Int
  list : Int
  title : ByteArray
  done : Bool
  rank : Nat
  est : Nat
  tags : List ByteArray
  tA : Option Addr
  tC : Nat

abbrev Lst.row (l : Lst) : List Value := [.int .u64 l.id, .string l.name]
abbrev Tsk.tagv (t : Tsk) : Value := .slice t.tA t.tags.length t.tC
abbrev Tsk.row (t : Tsk) : List Value := [.int .u64 t.id, .int .u64 t.list, .string t.title, .bool t.done, .float .f64 t.rank, .float .f64 t.est, t.tagv]
abbrev Lst.val (l : Lst) : Value := .agg #[.int .u64 l.id, .string l.name]
abbrev Tsk.val (t : Tsk) : Value := .agg #[.int .u64 t.id, .int .u64 t.list, .string t.title, .bool t.done, .float .f64 t.rank, .float .f64 t.est, t.tagv]

/-- a task's tags lie where it says -/
structure Tsk.ok (w : World) (t : Tsk) : Prop where
  few : t.tags.length ≤ 9223372036854775807
  rows : RowsAt w 1 t.tA (strRows t.tags)
  rank : t.rank < 18446744073709551616
  est : t.est < 18446744073709551616
theorem Tsk.ok.ext {w w' : World} {t : Tsk} (h : t.ok w) (e : Ext w w') : t.ok w' := ⟨h.few, e.rows h.rows, h.rank, h.est⟩

/-- lists, tasks that a slice's address shows -/
structure LstsAt (w : World) (A : Option Addr) (l : List Lst) : Prop where
  few : l.length ≤ 9223372036854775807
  rows : RowsAt w 2 A (l.map Lst.row)
theorem LstsAt.ext {w w' : World} {A : Option Addr} {l : List Lst} (h : LstsAt w A l) (e : Ext w w') : LstsAt w' A l := ⟨h.few, e.rows h.rows⟩
structure TsksAt (w : World) (A : Option Addr) (l : List Tsk) : Prop where
  few : l.length ≤ 9223372036854775807
  rows : RowsAt w 7 A (l.map Tsk.row)
  oks : ∀ t ∈ l, t.ok w
theorem TsksAt.ext {w w' : World} {A : Option Addr} {l : List Tsk} (h : TsksAt w A l) (e : Ext w w') : TsksAt w' A l := ⟨h.few, e.rows h.rows, fun t ht => (h.oks t ht).ext e⟩

theorem LstsAt.at_ {w : World} {A : Option Addr} {l : List Lst} (h : LstsAt w A l) {k : Nat} (hk : k < l.length) :
    ∃ ad x, A = some ad ∧ l[k]? = some x ∧ CellsAt w (ad.add (k * 2)) (Lst.row x) := by
  obtain ⟨ad, rfl, _, hc⟩ := h.rows.at_ (i := k) (by simpa using hk)
  exact ⟨ad, l[k], rfl, List.getElem?_eq_getElem hk, by simpa using hc⟩
theorem TsksAt.at_ {w : World} {A : Option Addr} {l : List Tsk} (h : TsksAt w A l) {k : Nat} (hk : k < l.length) :
    ∃ ad x, A = some ad ∧ l[k]? = some x ∧ x.ok w ∧ CellsAt w (ad.add (k * 7)) (Tsk.row x) := by
  obtain ⟨ad, rfl, _, hc⟩ := h.rows.at_ (i := k) (by simpa using hk)
  exact ⟨ad, l[k], rfl, List.getElem?_eq_getElem hk, h.oks _ (List.getElem_mem _), by simpa using hc⟩

/-- a state: where its lists and tasks lie -/
structure Sta where
  lists : List Lst
  tasks : List Tsk
  lA : Option Addr
  lC : Nat
  tA : Option Addr
  tC : Nat
abbrev Sta.val (s : Sta) : Value := .agg #[.slice s.lA s.lists.length s.lC, .slice s.tA s.tasks.length s.tC]
structure Sta.ok (w : World) (s : Sta) : Prop where
  lists : LstsAt w s.lA s.lists
  tasks : TsksAt w s.tA s.tasks
theorem Sta.ok.ext {w w' : World} {s : Sta} (h : s.ok w) (e : Ext w w') : s.ok w' := ⟨h.lists.ext e, h.tasks.ext e⟩

theorem lst_size : (Tryz.prog.info? 50).map (·.size) = some 2 := by kernel_rfl
theorem tsk_size : (Tryz.prog.info? 36).map (·.size) = some 7 := by kernel_rfl

/-- the list with an Id -/
noncomputable def lstAt : (List Lst) → Int → Int := Classical.choose (laid fun (l : List Lst) (id : Int) => (firstAt (fun x => x.id == id) l : Int))
theorem lstAt_eq (l : List Lst) (id : Int) : lstAt l id = (firstAt (fun x => x.id == id) l : Int) := laid2 _ l id


noncomputable def hasLst : (List Lst) → Int → Bool := Classical.choose (laid fun (l : List Lst) (id : Int) => (l.any fun x => x.id == id : Bool))
theorem hasLst_eq (l : List Lst) (id : Int) : hasLst l id = (l.any fun x => x.id == id : Bool) := laid2 _ l id


theorem lists1_any (l : Lst) (b : Nat) (id : Int) (w : World) (hc : w.cell? ⟨b, 0, none⟩ = some (.int .u64 id)) :
    Calls Tryz.prog 109 #[l.val, .pointer (some ⟨b, 0, none⟩)] w fun e w' => e = .returned (.bool (l.id == id)) ∧ Ext w w' := by
  have hlt := World.block_lt_of_cell? _ _ hc
  go_enter Tryz.func109, Tryz.ntmps109
  go_wp2
  go_ret
  exact ⟨rfl, Ext.rfl'.al _⟩
set_option maxRecDepth 100000 in
theorem enters_lists1 (args : Array Value) (w : World) : Sem.run Tryz.prog (callFunc 109 args) w = .ok (.enter 109 args) w := by
  simp only [callFunc, go_sem, Tryz.func109]
  rfl

theorem indexFunc_lst (A : Option Addr) (c : Nat) (l : List Lst) (F : Nat) (caps : Array Value) (p : Lst → Bool) (w : World)
    (hF : ∀ args w, Sem.run Tryz.prog (callFunc F args) w = .ok (.enter F args) w) (hr : LstsAt w A l)
    (hp : ∀ x w', Ext w w' → Calls Tryz.prog F (#[Lst.val x] ++ caps) w' fun e w'' => e = .returned (.bool (p x)) ∧ Ext w' w'') :
    Calls Tryz.prog 108 #[.slice A l.length c, .func (.func F) #[] caps] w
      fun e w' => e = .returned (.int .i64 (firstAt p l)) ∧ Ext w w' := by
  have hn := hr.few
  go_enter Tryz.func108, Tryz.ntmps108
  go_wp2
  go_loopw [8] (fun i wr => ∃ k : Nat, k ≤ l.length ∧ i = .int .i64 k ∧ Ext w wr ∧ ∀ (i : Nat) r, i < k → l[i]? = some r → p r = false) (fun i _ => l.length - (intOf i).toNat)
  case atStart => exact ⟨0, Nat.zero_le _, rfl, Ext.rfl', fun i r hi => absurd hi (by omega)⟩
  case round =>
    obtain ⟨k, hk, rfl, hb, hall⟩ := hrel
    by_cases hlt : k < l.length
    · obtain ⟨ad, x, rfl, hx, hc⟩ := hr.at_ hlt
      have hc' := hb.cells hc
      have HX := Lib.hid hx
      have HP := Lib.hid (hp x wr hb)
      have HA := Lib.hid hall
      clear hx hp hall hr hc
      go_wp2_with (first
        | (refine wpList_load_cells rfl 50 (.tmp 14) rfl (ad.add (k * 2)) (Lst.row x) rfl _ hc' Tryz.underlying50 rfl lst_size ?_)
        | ((with_reducible refine HP.out.mono ?_); rintro e w1 ⟨rfl, hb1⟩))
      · go_ret
        refine ⟨?_, hb.tr hb1⟩
        rw [firstAt_hit p l k HA.out x HX.out (by assumption)]
        rfl
      · go_roundw
        case rel =>
          refine ⟨k + 1, by omega, by go_num, hb.tr hb1, fun i r hi hr => ?_⟩
          by_cases h : i < k
          · exact HA.out i r h hr
          · obtain rfl : i = k := by omega
            rw [HX.out] at hr
            injection hr with hr
            subst hr
            assumption
        case measure => simp [intOf]; omega
    · have H := Lib.hid hall
      clear hall hp hr
      go_wp2
      go_ret
      refine ⟨?_, hb⟩
      rw [firstAt_none p l (fun i r hi => H.out i r (by have := (List.getElem?_eq_some_iff.1 hi).1; omega) hi)]
      rfl
end Go.Proofs.YthhmbijblpjfpaaGreat
