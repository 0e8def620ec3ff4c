/- Package task, first part: texts, tags, floats. -/
import Derived.Test.YthhmbijblpjfpaaGreatFlt
namespace Go.Proofs.YthhmbijblpjfpaaGreat
open Go.RowKit

/-- where the first row that meets p stands; -1: nowhere -/
def firstAt {α : Type} (p : α → Bool) : List α → Int
  | [] => -1
  | r :: rs => if p r then 0 else if firstAt p rs < 0 then -1 else firstAt p rs + 1
theorem firstAt_hit {α : Type} (p : α → Bool) : ∀ (rows : List α) (k : Nat), (∀ (i : Nat) r, i < k → rows[i]? = some r → p r = false) → ∀ r, rows[k]? = some r → p r = true → firstAt p rows = k
  | [], k, _, r, h, _ => by simp at h
  | x :: rs, 0, _, r, h, hp => by simp at h; subst h; simp [firstAt, hp]
  | x :: rs, k + 1, hl, r, h, hp => by
    have h0 := hl 0 x (by omega) rfl
    have ih := firstAt_hit p rs k (fun i r hi hr => hl (i + 1) r (by omega) (by simpa using hr)) r (by simpa using h) hp
    simp only [firstAt, h0, ih]
    simp
    omega
theorem firstAt_none {α : Type} (p : α → Bool) : ∀ (rows : List α), (∀ (i : Nat) r, rows[i]? = some r → p r = false) → firstAt p rows = -1
  | [], _ => rfl
  | x :: rs, hl => by
    have h0 := hl 0 x rfl
    have ih := firstAt_none p rs (fun i r hr => hl (i + 1) r (by simpa using hr))
    simp [firstAt, h0, ih]

noncomputable def okByte : Int → Bool := Classical.choose (laid fun (c : Int) => (decide (32 ≤ c) && decide (c ≤ 126) : Bool))
theorem okByte_eq (c : Int) : okByte c = (decide (32 ≤ c) && decide (c ≤ 126) : Bool) := laid1 _ c


theorem printable_any (c : Int) (w : World) : Calls Tryz.prog 94 #[.int .u8 c] w fun e w' => e = .returned (.bool (okByte c)) ∧ w = w' := by
  go_enter Tryz.func94, Tryz.ntmps94
  go_wp2
  all_goals
    go_ret
    refine ⟨?_, rfl⟩
    rw [okByte_eq]
    first | (simp [*]; done) | (simp; omega)
noncomputable def badByte : Int → Bool := Classical.choose (laid fun (c : Int) => (!okByte c : Bool))
theorem badByte_eq (c : Int) : badByte c = (!okByte c : Bool) := laid1 _ c


theorem title1_any (c : Int) (w : World) : Calls Tryz.prog 93 #[.int .u8 c] w fun e w' => e = .returned (.bool (badByte c)) ∧ w = w' := by
  rw [badByte_eq]
  go_enter Tryz.func93, Tryz.ntmps93
  go_wp2_with (go_at_call 94; refine (printable_any _ _).mono ?_; rintro e w' ⟨rfl, rfl⟩)
  go_ret
  refine ⟨?_, rfl⟩
  rfl

theorem indexFunc_byte (A : Option Addr) (c : Nat) (s : ByteArray) (F : Nat) (caps : Array Value) (p : Int → Bool) (w : World)
    (hF : ∀ args w, Sem.run Tryz.prog (callFunc F args) w = .ok (.enter F args) w) (hn : s.size ≤ 1000000) (hr : RowsAt w 1 A (byteRows s))
    (hp : ∀ (b : Int) w', Ext w w' → Calls Tryz.prog F (#[.int .u8 b] ++ caps) w' fun e w'' => e = .returned (.bool (p b)) ∧ Ext w' w'') :
    Calls Tryz.prog 135 #[.slice A s.size c, .func (.func F) #[] caps] w
      fun e w' => e = .returned (.int .i64 (firstAt (fun b => p (b.toNat : Int)) s.data.toList)) ∧ Ext w w' := by
  go_enter Tryz.func135, Tryz.ntmps135
  go_wp2
  go_loopw [8] (fun i wr => ∃ k : Nat, k ≤ s.size ∧ i = .int .i64 k ∧ Ext w wr ∧ ∀ (i : Nat) r, i < k → s.data.toList[i]? = some r → p (r.toNat : Int) = false) (fun i _ => s.size - (intOf i).toNat)
  case atStart => exact ⟨0, Nat.zero_le _, rfl, Ext.rfl', fun i r hi => absurd hi (by omega)⟩
  case round =>
    obtain ⟨k, hk, rfl, hb, hall⟩ := hrel
    by_cases hlt : k < s.size
    · have hlt' : k < (byteRows s).length := by simp [byteRows]; exact hlt
      obtain ⟨ad, rfl, _, hc⟩ := hr.at_ hlt'
      have hcell : w.cell? (ad.add k) = some (.int .u8 ((s.data[k]'hlt).toNat : Int)) := by
        have := hc 0 (.int .u8 ((s.data[k]'hlt).toNat : Int)) (by simp [byteRows])
        rw [addAdd] at this
        simpa using this
      obtain ⟨b, hb0⟩ : ∃ b : Int, b = ((s.data[k]'hlt).toNat : Int) := ⟨_, rfl⟩
      rw [← hb0] at hcell
      have Hb := Lib.hid hb0
      have HP := Lib.hid (hp b wr hb)
      have HA := Lib.hid hall
      have hcr := hb.cell_ hcell
      have hget : s.data.toList[k]? = some (s.data[k]'hlt) := by
        rw [Array.getElem?_toList]
        exact Array.getElem?_eq_getElem hlt
      have HG := Lib.hid hget
      clear hb0 hp hall hr hc hcell hget
      go_wp2_with ((with_reducible refine HP.out.mono ?_); rintro e w1 ⟨rfl, hb1⟩)
      · go_ret
        refine ⟨?_, hb.tr hb1⟩
        rw [firstAt_hit (fun b : UInt8 => p (b.toNat : Int)) s.data.toList k HA.out _ HG.out (by rw [← Hb.out]; assumption)]
        rfl
      · go_roundw
        case rel =>
          refine ⟨k + 1, by omega, by go_num, hb.tr hb1, fun i r hi hr => ?_⟩
          by_cases h : i < k
          · exact HA.out i r h hr
          · obtain rfl : i = k := by omega
            rw [HG.out] at hr
            injection hr with hr
            subst hr
            rw [← Hb.out]
            assumption
        case measure => simp [intOf]; omega
    · have H := Lib.hid hall
      clear hall hp hr
      go_wp2
      go_ret
      refine ⟨?_, hb⟩
      rw [firstAt_none (fun b : UInt8 => p (b.toNat : Int)) s.data.toList (fun i r hi => H.out i r (by have := (List.getElem?_eq_some_iff.1 hi).1; rw [Array.length_toList] at this; exact Nat.lt_of_lt_of_le this (by have : s.size = s.data.size := rfl; omega)) hi)]
      rfl
theorem containsFunc_byte (A : Option Addr) (c : Nat) (s : ByteArray) (F : Nat) (caps : Array Value) (p : Int → Bool) (w : World)
    (hF : ∀ args w, Sem.run Tryz.prog (callFunc F args) w = .ok (.enter F args) w) (hn : s.size ≤ 1000000) (hr : RowsAt w 1 A (byteRows s))
    (hp : ∀ (b : Int) w', Ext w w' → Calls Tryz.prog F (#[.int .u8 b] ++ caps) w' fun e w'' => e = .returned (.bool (p b)) ∧ Ext w' w'') :
    Calls Tryz.prog 92 #[.slice A s.size c, .func (.func F) #[] caps] w
      fun e w' => e = .returned (.bool (decide (0 ≤ firstAt (fun b => p (b.toNat : Int)) s.data.toList))) ∧ Ext w w' := by
  have H := Lib.hid (indexFunc_byte A c s F caps p w hF hn hr hp)
  clear hF hr hp
  generalize firstAt (fun b : UInt8 => p (b.toNat : Int)) s.data.toList = n at *
  go_enter Tryz.func92, Tryz.ntmps92
  go_wp2_with ((with_reducible refine H.out.mono ?_); rintro e w1 ⟨rfl, hb1⟩)
  go_ret
  refine ⟨?_, hb1⟩
  rfl
theorem firstAt_nonneg {α : Type} (p : α → Bool) : ∀ rows : List α, decide (0 ≤ firstAt p rows) = rows.any p
  | [] => rfl
  | x :: rs => by
    have ih := firstAt_nonneg p rs
    simp only [firstAt, List.any_cons]
    by_cases hx : p x = true
    · simp [hx]
    · simp only [hx]
      by_cases h0 : firstAt p rs < 0
      · have : ¬ 0 ≤ firstAt p rs := by omega
        simp [h0, this] at ih ⊢
        exact ih
      · have h1 : 0 ≤ firstAt p rs := by omega
        have h2 : (0 : Int) ≤ firstAt p rs + 1 := by omega
        simp [h0, h1, h2] at ih ⊢
        exact ih
noncomputable def titleOk : ByteArray → Bool := Classical.choose (laid fun (s : ByteArray) => (decide (1 ≤ s.size) && decide (s.size ≤ 60) && !(s.data.toList.any fun b => badByte (b.toNat : Int)) : Bool))
theorem titleOk_eq (s : ByteArray) : titleOk s = (decide (1 ≤ s.size) && decide (s.size ≤ 60) && !(s.data.toList.any fun b => badByte (b.toNat : Int)) : Bool) := laid1 _ s


set_option maxRecDepth 100000 in
theorem enters_title1 (args : Array Value) (w : World) : Sem.run Tryz.prog (callFunc 93 args) w = .ok (.enter 93 args) w := by
  simp only [callFunc, go_sem, Tryz.func93]
  rfl
theorem title_any (s : ByteArray) (w : World) : Calls Tryz.prog 56 #[.string s] w fun e w' => e = .returned (.bool (titleOk s)) ∧ Ext w w' := by
  by_cases h1 : 1 ≤ s.size
  · by_cases h2 : s.size ≤ 60
    · have H := fun A c w hr => Lib.hid (containsFunc_byte A c s 93 #[] badByte w enters_title1 (by omega) hr (fun b w' _ => (title1_any b w').mono fun e w'' h => ⟨h.1, h.2 ▸ Ext.rfl'⟩))
      have HT := Lib.hid (titleOk_eq s)
      rw [firstAt_nonneg] at H
      generalize (s.data.toList.any fun b => badByte (b.toNat : Int)) = n at *
      go_enter Tryz.func56, Tryz.ntmps56
      go_wp2_with (first
        | (refine wpList_bytes_of_string rfl _ _ _ rfl s 5 rfl Tryz.underlying9 Tryz.underlying142 Tryz.underlying5 ?_; intro A c w1 hc hA hb1 hr1)
        | ((with_reducible refine (H _ _ _ hr1).out.mono ?_); rintro e w2 ⟨rfl, hb2⟩))
      go_ret
      refine ⟨?_, hb1.tr hb2⟩
      rw [HT.out]
      simp [h1, h2]
    · have HT := Lib.hid (show titleOk s = false by rw [titleOk_eq]; simp [h2])
      go_enter Tryz.func56, Tryz.ntmps56
      go_wp2
      go_ret
      refine ⟨?_, Ext.rfl'⟩
      rw [HT.out]
      rfl
  · have HT := Lib.hid (show titleOk s = false by rw [titleOk_eq]; simp [h1])
    go_enter Tryz.func56, Tryz.ntmps56
    go_wp2
    go_ret
    refine ⟨?_, Ext.rfl'⟩
    rw [HT.out]
    rfl
end Go.Proofs.YthhmbijblpjfpaaGreat
