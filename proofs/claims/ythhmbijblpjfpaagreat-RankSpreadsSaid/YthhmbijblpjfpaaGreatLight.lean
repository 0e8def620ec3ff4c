/- Which states are small. -/
import Derived.Test.YthhmbijblpjfpaaGreatRight
namespace Go.Proofs.YthhmbijblpjfpaaGreat
open Go.RowKit

noncomputable def textsOk : (List ByteArray) → Bool := Classical.choose (laid fun (l : List ByteArray) => ((l.all fun x => decide (x.size ≤ 100)) && decide (l.length ≤ 8) : Bool))
theorem textsOk_eq (l : List ByteArray) : textsOk l = ((l.all fun x => decide (x.size ≤ 100)) && decide (l.length ≤ 8) : Bool) := laid1 _ l


theorem drop_cons {α : Type} {l : List α} {k : Nat} {x : α} (h : l[k]? = some x) : l.drop k = x :: l.drop (k + 1) := by
  have hk := (List.getElem?_eq_some_iff.1 h).1
  rw [List.drop_eq_getElem_cons hk]
  rw [List.getElem?_eq_getElem hk] at h
  injection h with h
  rw [h]

theorem texts_any (A : Option Addr) (c : Nat) (l : List ByteArray) (w : World) (hn : l.length ≤ 9223372036854775807) (hr : RowsAt w 1 A (strRows l)) :
    Calls Tryz.prog 55 #[.slice A l.length c] w fun e w' => e = .returned (.bool (textsOk l)) ∧ w = w' := by
  have HO := Lib.hid (textsOk_eq l)
  go_enter Tryz.func55, Tryz.ntmps55
  go_wp2
  go_loop [7] (fun i => ∃ k : Nat, k ≤ l.length ∧ i = .int .i64 k ∧ (l.all fun x => decide (x.size ≤ 100)) = ((l.drop k).all fun x => decide (x.size ≤ 100))) (fun i => l.length - (intOf i).toNat)
  case atStart => exact ⟨0, Nat.zero_le _, rfl, rfl⟩
  case round =>
    obtain ⟨k, hk, rfl, hall⟩ := hrel
    by_cases hlt : k < l.length
    · obtain ⟨ad, x, rfl, hc, hx⟩ := strRows_at hr hlt
      rw [drop_cons hx, List.all_cons] at hall
      have HA := Lib.hid hall
      clear hall hx hr
      by_cases hs : x.size ≤ 100
      · go_wp2
        go_round
        case rel => exact ⟨k + 1, by omega, by go_num, by rw [HA.out]; simp [hs]⟩
        case measure => simp [intOf]; omega
      · go_wp2
        go_ret
        refine ⟨?_, rfl⟩
        rw [HO.out, HA.out]
        simp [hs]
    · have HA := Lib.hid hall
      clear hall hr
      go_wp2
      go_ret
      refine ⟨?_, rfl⟩
      rw [HO.out, HA.out, List.drop_eq_nil_of_le (by omega)]
      simp
      omega

noncomputable def lightOk : (List Lst) → (List Tsk) → Bool := Classical.choose (laid fun (l : List Lst) (ts : List Tsk) => (decide (l.length ≤ 25) && decide (ts.length ≤ 70) && (l.all fun x => decide (x.name.size ≤ 100)) && (ts.all fun t => decide (t.title.size ≤ 100) && textsOk t.tags) : Bool))
theorem lightOk_eq (l : List Lst) (ts : List Tsk) : lightOk l ts = (decide (l.length ≤ 25) && decide (ts.length ≤ 70) && (l.all fun x => decide (x.name.size ≤ 100)) && (ts.all fun t => decide (t.title.size ≤ 100) && textsOk t.tags) : Bool) := laid2 _ l ts


theorem light_any (s : Sta) (w : World) (hs : s.ok w) : Calls Tryz.prog 16 #[s.val] w fun e w' => e = .returned (.bool (lightOk s.lists s.tasks)) ∧ Ext w w' := by
  have HO := Lib.hid (lightOk_eq s.lists s.tasks)
  by_cases h1 : ¬ s.lists.length ≤ 25
  · have HO := Lib.hid (show lightOk s.lists s.tasks = false by rw [HO.out]; simp [h1])
    go_enter Tryz.func16, Tryz.ntmps16
    go_wp2
    go_ret
    refine ⟨?_, Ext.rfl'.al _⟩
    rw [HO.out]
    rfl
  by_cases h2 : ¬ s.tasks.length ≤ 70
  · have HO := Lib.hid (show lightOk s.lists s.tasks = false by rw [HO.out]; simp [h2])
    go_enter Tryz.func16, Tryz.ntmps16
    go_wp2
    go_ret
    refine ⟨?_, Ext.rfl'.al _⟩
    rw [HO.out]
    rfl
  have h1' : s.lists.length ≤ 25 := by omega
  have h2' : s.tasks.length ≤ 70 := by omega
  have HO := Lib.hid (show lightOk s.lists s.tasks = ((s.lists.all fun x => decide (x.name.size ≤ 100)) && (s.tasks.all fun t => decide (t.title.size ≤ 100) && textsOk t.tags)) by rw [HO.out]; simp [h1', h2'])
  have HS := Lib.hid hs
  have hsf := store_float
  clear hs h1 h2
  go_enter Tryz.func16, Tryz.ntmps16
  go_wp2
  go_loopw [20] (fun i wr => ∃ k : Nat, k ≤ s.lists.length ∧ i = .int .i64 k ∧ Ext (w.alloc (.cells #[.slice s.lA s.lists.length s.lC, .slice s.tA s.tasks.length s.tC] 25)) wr ∧ (s.lists.all fun x => decide (x.name.size ≤ 100)) = ((s.lists.drop k).all fun x => decide (x.name.size ≤ 100))) (fun i _ => s.lists.length - (intOf i).toNat)
  case atStart => exact ⟨0, Nat.zero_le _, rfl, Ext.rfl', rfl⟩
  case round =>
    obtain ⟨k, hk, rfl, hb, hrest⟩ := hrel
    have hbw : Ext w wr := (Ext.rfl'.al _).tr hb
    by_cases hlt : k < s.lists.length
    · obtain ⟨ad, x, hA, hx, hc⟩ := HS.out.lists.at_ hlt
      rw [drop_cons hx, List.all_cons] at hrest
      have HR := Lib.hid hrest
      have hcr := hbw.cells hc
      obtain ⟨sl, st, lA, lC, tA, tC⟩ := s
      dsimp only at hA hlt hk h1' h2'
      subst hA
      clear hx hrest hc
      by_cases hsz : x.name.size ≤ 100
      · go_wp2_with (refine wpList_load_cells rfl 50 (.tmp 22) rfl (ad.add (k * 2)) (Lst.row x) rfl _ hcr Tryz.underlying50 rfl lst_size ?_)
        go_roundw
        case rel => exact ⟨k + 1, by omega, by go_num, hb.al _, by rw [HR.out]; simp [hsz]⟩
        case measure => simp [intOf]; omega
      · go_wp2_with (refine wpList_load_cells rfl 50 (.tmp 22) rfl (ad.add (k * 2)) (Lst.row x) rfl _ hcr Tryz.underlying50 rfl lst_size ?_)
        go_ret
        refine ⟨?_, hbw.al _⟩
        rw [HO.out, HR.out]
        simp [hsz]
    · have h0 : (s.lists.all fun x => decide (x.name.size ≤ 100)) = true := by rw [hrest, List.drop_eq_nil_of_le (by omega)]; rfl
      have HO := Lib.hid (show lightOk s.lists s.tasks = (s.tasks.all fun t => decide (t.title.size ≤ 100) && textsOk t.tags) by rw [HO.out, h0]; rfl)
      clear hrest h0
      obtain ⟨hrc0, hrf0⟩ := Ext.rules hb
      have hz0 : w.heap.size < wr.heap.size := Nat.lt_of_lt_of_le (by simp) hb.size
      go_wp2
      go_loopw [32] (fun i wr => ∃ k : Nat, k ≤ s.tasks.length ∧ i = .int .i64 k ∧ Ext (w.alloc (.cells #[.slice s.lA s.lists.length s.lC, .slice s.tA s.tasks.length s.tC] 25)) wr ∧ (s.tasks.all fun t => decide (t.title.size ≤ 100) && textsOk t.tags) = ((s.tasks.drop k).all fun t => decide (t.title.size ≤ 100) && textsOk t.tags)) (fun i _ => s.tasks.length - (intOf i).toNat)
      case atStart => exact ⟨0, Nat.zero_le _, rfl, hb, rfl⟩
      case round =>
        clear hrc0 hrf0 hz0 hb hbw hlt hk
        obtain ⟨k, hk, rfl, hb, hrest⟩ := hrel
        have hbw : Ext w wr := (Ext.rfl'.al _).tr hb
        by_cases hlt : k < s.tasks.length
        · obtain ⟨ad, x, hA, hx, hxo, hc⟩ := HS.out.tasks.at_ hlt
          rw [drop_cons hx, List.all_cons] at hrest
          have HR := Lib.hid hrest
          have hcr := hbw.cells hc
          have HXO := Lib.hid hxo
          obtain ⟨sl, st, lA, lC, tA, tC⟩ := s
          dsimp only at hA hlt hk h1' h2'
          subst hA
          clear hx hrest hc hxo
          by_cases hsz : x.title.size ≤ 100
          · go_wp2_with (first
              | (refine wpList_load_cells rfl 36 (.tmp 34) rfl (ad.add (k * 7)) (Tsk.row x) rfl _ hcr Tryz.underlying36 rfl tsk_size ?_)
              | (go_at_call 55; refine (texts_any _ _ _ _ HXO.out.few (by exact (hbw.al _).rows HXO.out.rows)).mono ?_; rintro e w2 ⟨rfl, rfl⟩))
            · have ht : textsOk x.tags = false := by
                have h := ‹100 < (x.title.size : Int) ∨ (!textsOk x.tags) = true›
                rcases h with h | h
                · omega
                · simpa using h
              go_ret
              refine ⟨?_, hbw.al _⟩
              rw [HO.out, HR.out]
              simp [ht]
            · have ht : textsOk x.tags = true := by
                have h := ‹(x.title.size : Int) ≤ 100 ∧ (!textsOk x.tags) = false›
                simpa using h.2
              go_roundw
              case rel => exact ⟨k + 1, by omega, by go_num, hb.al _, by rw [HR.out]; simp [hsz, ht]⟩
              case measure => simp [intOf]; omega
          · go_wp2_with (refine wpList_load_cells rfl 36 (.tmp 34) rfl (ad.add (k * 7)) (Tsk.row x) rfl _ hcr Tryz.underlying36 rfl tsk_size ?_)
            go_ret
            refine ⟨?_, hbw.al _⟩
            rw [HO.out, HR.out]
            simp [hsz]
        · have h0 : (s.tasks.all fun t => decide (t.title.size ≤ 100) && textsOk t.tags) = true := by rw [hrest, List.drop_eq_nil_of_le (by omega)]; rfl
          have H0 := Lib.hid h0
          clear hrest h0
          go_wp2
          go_ret
          refine ⟨?_, hbw⟩
          rw [HO.out, H0.out]
          rfl
end Go.Proofs.YthhmbijblpjfpaaGreat
