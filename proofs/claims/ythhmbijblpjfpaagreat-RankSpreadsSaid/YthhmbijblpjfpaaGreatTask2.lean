/- Package task, second part: tags, floats. -/
import Derived.Test.YthhmbijblpjfpaaGreatTask
namespace Go.Proofs.YthhmbijblpjfpaaGreat
open Go.RowKit

noncomputable def tagByte : Int → Bool := Classical.choose (laid fun (c : Int) => ((decide (97 ≤ c) && decide (c ≤ 122)) || (decide (48 ≤ c) && decide (c ≤ 57)) || c == 45 : Bool))
theorem tagByte_eq (c : Int) : tagByte c = ((decide (97 ≤ c) && decide (c ≤ 122)) || (decide (48 ≤ c) && decide (c ≤ 57)) || c == 45 : Bool) := laid1 _ c


noncomputable def tagOk : ByteArray → Bool := Classical.choose (laid fun (s : ByteArray) => (decide (1 ≤ s.size) && decide (s.size ≤ 16) && (s.data.toList.all fun b => tagByte (b.toNat : Int)) : Bool))
theorem tagOk_eq (s : ByteArray) : tagOk s = (decide (1 ≤ s.size) && decide (s.size ≤ 16) && (s.data.toList.all fun b => tagByte (b.toNat : Int)) : Bool) := laid1 _ s


theorem tag_any (s : ByteArray) (w : World) : Calls Tryz.prog 130 #[.string s] w fun e w' => e = .returned (.bool (tagOk s)) ∧ Ext w w' := by
  by_cases h1 : 1 ≤ s.size
  · by_cases h2 : s.size ≤ 16
    · have HT := Lib.hid (tagOk_eq s)
      go_enter Tryz.func130, Tryz.ntmps130
      go_wp2_with (refine wpList_bytes_of_string rfl _ _ _ rfl s 5 rfl Tryz.underlying9 Tryz.underlying142 Tryz.underlying5 ?_; intro A c w1 hc hA hb1 hr1)
      go_loop [18] (fun i => ∃ k : Nat, k ≤ s.size ∧ i = .int .i64 k ∧ ∀ (i : Nat) r, i < k → s.data.toList[i]? = some r → tagByte (r.toNat : Int) = true) (fun i => s.size - (intOf i).toNat)
      case atStart => exact ⟨0, Nat.zero_le _, rfl, fun i r hi => absurd hi (by omega)⟩
      case round =>
        obtain ⟨k, hk, rfl, hall⟩ := hrel
        by_cases hlt : k < s.size
        · obtain ⟨ad, x, rfl, hcell, hget⟩ := byteRows_at hr1 hlt
          generalize hb0 : (x.toNat : Int) = b at *
          have Hb := Lib.hid hb0
          have HA := Lib.hid hall
          have HG := Lib.hid hget
          clear hb0 hall hr1 hget hA
          by_cases hok : (97 ≤ b ∧ b ≤ 122) ∨ (48 ≤ b ∧ b ≤ 57) ∨ b = 45
          · have HO := Lib.hid hok
            rcases hok with hok | hok | rfl
            all_goals
              go_wp2
              go_round
              case rel =>
                refine ⟨k + 1, by omega, by go_num, fun i r hi hr => ?_⟩
                by_cases h : i < k
                · exact HA.out i r h hr
                · obtain rfl : i = k := by omega
                  rw [HG.out] at hr
                  injection hr with hr
                  subst hr
                  rw [Hb.out, tagByte_eq]
                  have := HO.out
                  rcases this with h | h | h
                  · simp [h]
                  · simp [h]
                  · simp [h]
              case measure => simp [intOf]; omega
          · have HO := Lib.hid hok
            go_wp2
            all_goals first
              | (exfalso; simp only [Bool.not_eq_false', Bool.not_eq_eq_eq_not, Bool.not_false, Bool.not_true, decide_eq_true_eq, decide_eq_false_iff_not, bne_eq_false_iff_eq, bne_iff_ne, Bool.not_eq_true] at *; omega)
              | (go_ret
                 refine ⟨?_, hb1⟩
                 rw [HT.out, show (s.data.toList.all fun b => tagByte (b.toNat : Int)) = false from List.all_eq_false.2 ⟨x, List.mem_of_getElem? HG.out, by
                   rw [Hb.out, tagByte_eq]
                   have := HO.out
                   simp
                   omega⟩]
                 simp)
        · have H := Lib.hid hall
          clear hall hr1
          go_wp2
          go_ret
          refine ⟨?_, hb1⟩
          rw [HT.out]
          rw [show (s.data.toList.all fun b => tagByte (b.toNat : Int)) = true from List.all_eq_true.2 fun x hx => by
            obtain ⟨i, hi⟩ := List.getElem?_of_mem hx
            refine H.out i x ?_ hi
            have := (List.getElem?_eq_some_iff.1 hi).1
            rw [Array.length_toList] at this
            have h3 : s.size = s.data.size := rfl
            omega]
          simp [h1, h2]
    · have HT := Lib.hid (show tagOk s = false by rw [tagOk_eq]; simp [h2])
      go_enter Tryz.func130, Tryz.ntmps130
      go_wp2
      go_ret
      refine ⟨?_, Ext.rfl'⟩
      rw [HT.out]
      rfl
  · have HT := Lib.hid (show tagOk s = false by rw [tagOk_eq]; simp [h1])
    go_enter Tryz.func130, Tryz.ntmps130
    go_wp2
    go_ret
    refine ⟨?_, Ext.rfl'⟩
    rw [HT.out]
    rfl
noncomputable def isCanon : Nat → Bool := Classical.choose (laid fun (x : Nat) => (fBits (fCanon x) == fBits x : Bool))
theorem isCanon_eq (x : Nat) : isCanon x = (fBits (fCanon x) == fBits x : Bool) := laid1 _ x


theorem tcanon_any (x : Nat) (w : World) : Calls Tryz.prog 95 #[.float .f64 x] w fun e w' => e = .returned (.bool (isCanon x)) ∧ w = w' := by
  rw [isCanon_eq]
  go_enter Tryz.func95, Tryz.ntmps95
  go_wp2_with (first | (go_at_call 107; refine (canon_any _ _).mono ?_; rintro e w' ⟨rfl, rfl⟩) | (go_at_call 126; refine (fbits_any _ _).mono ?_; rintro e w' ⟨rfl, rfl⟩))
  go_ret
  refine ⟨?_, rfl⟩
  rfl
/-- strings, a row each -/
abbrev strRows (l : List ByteArray) : List (List Value) := l.map fun s => [Value.string s]
theorem strRows_at {w : World} {A : Option Addr} {l : List ByteArray} (hr : RowsAt w 1 A (strRows l)) {k : Nat} (hlt : k < l.length) :
    ∃ ad x, A = some ad ∧ w.cell? (ad.add k) = some (.string x) ∧ l[k]? = some x := by
  obtain ⟨ad, rfl, _, hc⟩ := hr.at_ (i := k) (by simpa using hlt)
  refine ⟨ad, l[k], rfl, ?_, List.getElem?_eq_getElem hlt⟩
  have := hc 0 (.string l[k]) (by simp)
  rw [addAdd] at this
  simpa using this

noncomputable def strLt : ByteArray → ByteArray → Bool := Classical.choose (laid fun (x : ByteArray) (y : ByteArray) => (Op.bytesLess x.toList y.toList : Bool))
theorem strLt_eq (x : ByteArray) (y : ByteArray) : strLt x y = (Op.bytesLess x.toList y.toList : Bool) := laid2 _ x y


noncomputable def tagAt : (List ByteArray) → Nat → Bool := Classical.choose (laid fun (l : List ByteArray) (i : Nat) => (match l[i]? with
  | some x => tagOk x && (i == 0 || (match l[i - 1]? with | some y => strLt y x | none => false))
  | none => true : Bool))
theorem tagAt_eq (l : List ByteArray) (i : Nat) : tagAt l i = (match l[i]? with
  | some x => tagOk x && (i == 0 || (match l[i - 1]? with | some y => strLt y x | none => false))
  | none => true : Bool) := laid2 _ l i


noncomputable def tagsErr : (List ByteArray) → Int := Classical.choose (laid fun (l : List ByteArray) => (if 4 < l.length then 95 else if (List.range l.length).all (tagAt l) then 0 else 94 : Int))
theorem tagsErr_eq (l : List ByteArray) : tagsErr l = (if 4 < l.length then 95 else if (List.range l.length).all (tagAt l) then 0 else 94 : Int) := laid1 _ l


theorem tags_any (A : Option Addr) (c : Nat) (l : List ByteArray) (w : World) (hn : l.length ≤ 9223372036854775807) (hr : RowsAt w 1 A (strRows l)) :
    Calls Tryz.prog 96 #[.slice A l.length c] w fun e w' => e = .returned (.int .i64 (tagsErr l)) ∧ Ext w w' := by
  by_cases h4 : 4 < l.length
  · have HT := Lib.hid (show tagsErr l = 95 by rw [tagsErr_eq, if_pos h4])
    go_enter Tryz.func96, Tryz.ntmps96
    go_wp2
    go_ret
    refine ⟨?_, Ext.rfl'⟩
    rw [HT.out]
    rfl
  · have HT := Lib.hid (show tagsErr l = if (List.range l.length).all (tagAt l) then 0 else 94 by rw [tagsErr_eq, if_neg h4])
    go_enter Tryz.func96, Tryz.ntmps96
    go_wp2
    go_loopw [10] (fun i wr => ∃ k : Nat, k ≤ l.length ∧ i = .int .i64 k ∧ Ext w wr ∧ ∀ i, i < k → tagAt l i = true) (fun i _ => l.length - (intOf i).toNat)
    case atStart => exact ⟨0, Nat.zero_le _, rfl, Ext.rfl', fun i hi => absurd hi (by omega)⟩
    case round =>
      obtain ⟨k, hk, rfl, hb, hall⟩ := hrel
      by_cases hlt : k < l.length
      · obtain ⟨ad, x, rfl, hc, hx⟩ := strRows_at hr hlt
        have hcr := hb.cell_ hc
        have HA := Lib.hid hall
        have HX := Lib.hid hx
        by_cases hok : tagOk x = true
        · by_cases h0 : k = 0
          · have HK : Hid (tagAt l k = true) := by
              show tagAt l k = true
              rw [tagAt_eq, hx]
              simp [hok, h0]
            subst h0
            have hcr0 : wr.cell? ad = some (.string x) := hcr
            clear hall hx hc hr hcr
            go_wp2_with (go_at_call 130; refine (tag_any _ _).mono ?_; rintro e w1 ⟨rfl, hb1⟩)
            go_roundw
            case rel => exact ⟨1, by omega, by go_num, hb.tr hb1, fun i hi => by obtain rfl : i = 0 := (by omega); exact HK.out⟩
            case measure => simp [intOf]; omega
          · obtain ⟨ad', y, he, hcy, hy⟩ := strRows_at hr (k := k - 1) (by omega)
            injection he with he
            subst he
            have hcyr := fun w1 (h : Ext w w1) => h.cell_ hcy
            have HCY := Lib.hid hcyr
            have HK : Hid (tagAt l k = strLt y x) := by
              show tagAt l k = strLt y x
              rw [tagAt_eq, hx]
              simp [hok, h0, hy]
            clear hall hx hc hr hy hcy hcyr
            go_wp2_with (go_at_call 130; refine (tag_any _ _).mono ?_; rintro e w1 ⟨rfl, hb1⟩; have hcy1 := HCY.out w1 (hb.tr hb1))
            · have hlt1 : (!Op.bytesLess y.toList x.toList) = true := by assumption
              go_ret
              refine ⟨?_, hb.tr hb1⟩
              rw [HT.out, if_neg (by
                intro h
                have := List.all_eq_true.1 h k (List.mem_range.2 hlt)
                rw [HK.out, strLt_eq] at this
                simp [this] at hlt1)]
              rfl
            · have hlt1 : (!Op.bytesLess y.toList x.toList) = false := by assumption
              go_roundw
              case rel =>
                refine ⟨k + 1, by omega, by go_num, hb.tr hb1, fun i hi => ?_⟩
                by_cases h : i < k
                · exact HA.out i h
                · obtain rfl : i = k := by omega
                  rw [HK.out, strLt_eq]
                  simpa using hlt1
              case measure => simp [intOf]; omega
        · have HK : Hid (tagAt l k = false) := by
            show tagAt l k = false
            rw [tagAt_eq, hx]
            simp [hok]
          have hok' : tagOk x = false := by simpa using hok
          clear hall hx hc hr hok
          go_wp2_with (go_at_call 130; refine (tag_any _ _).mono ?_; rintro e w1 ⟨rfl, hb1⟩)
          go_ret
          refine ⟨?_, hb.tr hb1⟩
          rw [HT.out, if_neg (by
            intro h
            have := List.all_eq_true.1 h k (List.mem_range.2 hlt)
            rw [HK.out] at this
            cases this)]
          rfl
      · have H := Lib.hid hall
        clear hall hr
        go_wp2
        go_ret
        refine ⟨?_, hb⟩
        rw [HT.out, if_pos (List.all_eq_true.2 fun i hi => H.out i (by have := List.mem_range.1 hi; omega))]
        rfl
end Go.Proofs.YthhmbijblpjfpaaGreat
