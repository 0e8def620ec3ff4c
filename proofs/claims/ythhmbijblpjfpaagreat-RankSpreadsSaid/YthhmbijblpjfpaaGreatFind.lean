/- task.Find, rank.At. -/
import Derived.Test.YthhmbijblpjfpaaGreatOrder
namespace Go.Proofs.YthhmbijblpjfpaaGreat
open Go.RowKit

theorem OwnT.tsks {w : World} {base : Nat} {A : Option Addr} {n c : Nat} {l : List Tsk} (h : OwnT w base (.slice A n c) l) (hn : n = l.length) (hl : l.length ≤ 1000000) : TsksAt w A l :=
  ⟨by omega, by subst hn; exact rows_of_own tsk_len (by omega) h.row, h.oks⟩

/- a copy of tags, behind a store elsewhere -/
theorem tags_copied {w1 w2 : World} {b : Nat} {x : List ByteArray} {A1 : Option Addr} {c1 g : Nat} (hown : w1.ownsRow b 9 1 (.slice A1 x.length c1) x.length (x.map Value.string)) (ho : Only g w1 w2) (hg : g < b) :
    w2.ownsRow b 9 1 (.slice A1 x.length c1) x.length (x.map Value.string) := by
  refine hown.kept (Srt.of_only ho) ?_
  cases hb : (Value.slice A1 x.length c1).ownBlock with
  | none => simp
  | some q =>
    have := own_lt hown hb
    right
    intro h
    injection h with h
    omega
theorem tags_rows {w1 : World} {b : Nat} {x : List ByteArray} {A1 : Option Addr} {c1 : Nat} (hown : w1.ownsRow b 9 1 (.slice A1 x.length c1) x.length (x.map Value.string)) : RowsAt w1 1 A1 (strRows x) :=
  rows_of_own (k := 1) (l := x) (enc := strEnc) (fun _ => rfl) Nat.one_pos (by rw [flat_str]; exact hown)
theorem own_ne {w : World} {base : Nat} {e : TypeId} {k : Nat} {v : Value} {n : Nat} {xs : List Value} (h : w.ownsRow base e k v n xs) {g : Nat} (hg : g < base) : some g ≠ v.ownBlock := by
  intro hb
  have := own_lt h hb.symm
  omega
theorem noTsk_ok (w : World) : noTsk.ok w := ⟨by decide, RowsAt.nil _ _ _, by decide, by decide⟩
set_option maxRecDepth 100000 in
theorem find_any (s : Sta) (id : Int) (w : World) (hs : s.ok w) (ht : ∀ t ∈ s.tasks, t.tags.length ≤ 1000) :
    Calls Tryz.prog 89 #[s.val, .int .u64 id] w fun e w' => ∃ t : Tsk, e = .returned (.tuple #[t.val, .bool (hasTsk s.tasks id)]) ∧ t.core = (findTsk s.tasks id).core ∧ t.ok w' ∧ Ext w w' := by
  have hn := hs.tasks.few
  have hsf := store_float
  have HF := Lib.hid (findTsk_eq s.tasks id)
  have HH := Lib.hid (hasTsk_eq s.tasks id)
  have HS := Lib.hid hs
  have HT := Lib.hid ht
  clear hs ht
  go_enter Tryz.func89, Tryz.ntmps89
  go_wp2
  go_loopw [11] (fun i wr => ∃ k : Nat, k ≤ s.tasks.length ∧ i = .int .i64 k ∧ Ext w wr ∧ Blk wr (w.heap.size + 1) 36 (Tsk.row noTsk) ∧
      (s.tasks.find? fun x => x.id == id) = ((s.tasks.drop k).find? fun x => x.id == id) ∧ (s.tasks.any fun x => x.id == id) = ((s.tasks.drop k).any fun x => x.id == id)) (fun i _ => s.tasks.length - (intOf i).toNat)
  case atStart => exact ⟨0, Nat.zero_le _, rfl, (Ext.rfl'.al _).al _, Blk.new1 w _ 36 (Tsk.row noTsk), rfl, rfl⟩
  case round =>
    obtain ⟨k, hk, rfl, hb, hblk, hf, ha⟩ := hrel
    by_cases hlt : k < s.tasks.length
    · obtain ⟨ad, x, hA, hx, hxo, hc⟩ := HS.out.tasks.at_ hlt
      rw [drop_cons hx, List.find?_cons] at hf
      rw [drop_cons hx, List.any_cons] at ha
      have HFk := Lib.hid hf
      have HAk := Lib.hid ha
      have hcr := hb.cells hc
      have HB := Lib.hid hblk
      have HX := Lib.hid hxo
      have htx := HT.out x (List.mem_of_getElem? hx)
      have hsz := hb.size
      have hbl := hblk.lt
      obtain ⟨sl, st, lA, lC, tA, tC⟩ := s
      dsimp only at hA hlt hk hn
      subst hA
      clear hf ha hx hc hblk hxo
      by_cases hq : x.id = id
      · have hd : (x.id == id) = true := by simpa using hq
        have HQ := Lib.hid hq
        clear hq
        go_wp2_with (first
          | (refine wpList_load_cells rfl 36 (.tmp 13) rfl (ad.add (k * 7)) (Tsk.row x) rfl _ hcr Tryz.underlying36 rfl tsk_size ?_)
          | (go_at_call 60; refine (clone_any x.tA x.tC x.tags _ (by omega) (by exact (hb.al _).rows HX.out.rows)).mono ?_; rintro e w1 ⟨v1, rfl, hb1, hown1, hnil1⟩; obtain ⟨A1, c1, rfl⟩ := own_shape hown1; have hbx1 : Blk w1 wr.heap.size 36 (Tsk.row x) := ((Blk.new wr _ (Tsk.row x)).ext hb1); have HB1 := Lib.hid hbx1; have HOWN1 := Lib.hid hown1; have HR1 := Lib.hid ((HB.out.al _).ext hb1); clear hbx1 hown1 hnil1)
          | (refine wpList_store_cell rfl 34 (.tmp 22) (.tmp 21) rfl wr.heap.size 6 36 (Tsk.row x) (.slice A1 x.tags.length c1) rfl rfl rfl HB1.out (by simp) strs_size rfl ?_; intro w2 hb2 ho2; have HB2 := Lib.hid hb2; have HR2 := Lib.hid (HR1.out.only ho2 (by omega)); clear hb2)
          | (refine wpList_load_cells rfl 36 (.tmp 7) rfl ⟨wr.heap.size, 0, none⟩ (Tsk.row { x with tA := A1, tC := c1 }) rfl _ HB2.out.cellsAt0 Tryz.underlying36 rfl tsk_size ?_)
          | (refine wpList_store_agg rfl 36 (.tmp 4) (.tmp 23) rfl _ 0 36 _ (Tsk.row { x with tA := A1, tC := c1 }) rfl rfl HR2.out (by simp) tsk_size (by simp [Value.oneCell']) ?_; intro w3 hb3 ho3))
        refine bodyPost_cell_tmp (cs := Tsk.row { x with tA := A1, tC := c1 }) rfl rfl (by simpa [splice] using hb3) Tryz.underlying36 rfl tsk_size rfl ⟨{ x with tA := A1, tC := c1 }, ?_, ?_, ?_, ?_⟩
        · rw [HH.out, HAk.out, hd]
          rfl
        · rw [HF.out, HFk.out, hd]
          rfl
        · exact ⟨HX.out.few, tags_rows (tags_copied (tags_copied HOWN1.out ho2 (by simp)) ho3 (by simp; omega)), HX.out.rank, HX.out.est⟩
        · exact ((hb.tr ((Ext.rfl'.al _).tr hb1)).only (by omega) ho2).only (by omega) ho3
      · have he : (x.id == id) = false := by simpa using hq
        go_wp2_with (first
          | (refine wpList_load_cells rfl 36 (.tmp 13) rfl (ad.add (k * 7)) (Tsk.row x) rfl _ hcr Tryz.underlying36 rfl tsk_size ?_))
        go_roundw
        case rel => exact ⟨k + 1, by omega, by go_num, hb.al _, HB.out.al _, by rw [HFk.out]; simp [he], by rw [HAk.out]; simp [he]⟩
        case measure => simp [intOf]; omega
    · have h1 : (s.tasks.find? fun x => x.id == id) = none := by rw [hf, List.drop_eq_nil_of_le (by omega)]; rfl
      have h2 : (s.tasks.any fun x => x.id == id) = false := by rw [ha, List.drop_eq_nil_of_le (by omega)]; rfl
      have H1 := Lib.hid h1
      have H2 := Lib.hid h2
      have HB := Lib.hid hblk
      clear hf ha h1 h2 hblk
      go_wp2_with (refine wpList_store_agg rfl 36 (.tmp 4) (.tmp 25) rfl _ 0 36 _ (Tsk.row noTsk) rfl rfl HB.out (by simp) tsk_size (by simp [Value.oneCell']) ?_; intro w1 hb1 ho1)
      refine bodyPost_cell_tmp (cs := Tsk.row noTsk) rfl rfl (by simpa [splice] using hb1) Tryz.underlying36 rfl tsk_size rfl ⟨noTsk, ?_, ?_, noTsk_ok _, ?_⟩
      · rw [HH.out, H2.out]
        rfl
      · rw [HF.out, H1.out]
        rfl
      · exact hb.only (by omega) ho1

theorem order_len {s : List Tsk} {l : List Tsk} {p : Tsk → Bool} (hp : (l.map Tsk.core).Perm ((s.filter p).map Tsk.core)) (hn : s.length ≤ 1000) : l.length ≤ 1000 := by
  have h1 := hp.length_eq
  have h2 := List.length_filter_le p s
  simp only [List.length_map] at h1
  omega
noncomputable def ordAt : (List Tsk) → Bool → Int → Int := Classical.choose (laid fun (l : List Tsk) (has : Bool) (id : Int) => (if has then placeOf l id else -1 : Int))
theorem ordAt_eq (l : List Tsk) (has : Bool) (id : Int) : ordAt l has id = (if has then placeOf l id else -1 : Int) := laid3 _ l has id


set_option maxRecDepth 100000 in
theorem at_any' (s : Sta) (id : Int) (w : World) (hs : s.ok w) (hn : s.tasks.length ≤ 1000) (ht : ∀ t ∈ s.tasks, t.tags.length ≤ 1000) :
    Calls Tryz.prog 54 #[s.val, .int .u64 id] w fun e w' => ∃ l : List Tsk, e = .returned (.int .i64 (ordAt l (hasTsk s.tasks id) id)) ∧ Ext w w' ∧
      (hasTsk s.tasks id = true → (l.map Tsk.core).Perm ((s.tasks.filter fun t => t.list == (findTsk s.tasks id).list).map Tsk.core) ∧ Sd (ltc ordCf) l 0 l.length) := by
  have hsf := store_float
  have HS := Lib.hid hs
  have HT := Lib.hid ht
  clear hs ht
  go_enter Tryz.func54, Tryz.ntmps54
  have HA := Lib.hid (ordAt_eq · (hasTsk s.tasks id) id)
  obtain ⟨has, hhas⟩ : ∃ has, has = hasTsk s.tasks id := ⟨_, rfl⟩
  have HF := Lib.hid (find_any s id · · HT.out)
  rw [← hhas] at HA HF ⊢
  clear hhas
  obtain ⟨ft, hft⟩ : ∃ ft, ft = findTsk s.tasks id := ⟨_, rfl⟩
  rw [← hft] at HF ⊢
  clear hft
  go_wp2_with (first
    | (go_at_call 89; go_loud (refine (HF.out _ (HS.out.ext (by exact Ext.rfl'.al _))).mono ?_; rintro e w1 ⟨t, rfl, hcore, htok, hb1⟩; obtain ⟨hrc1, hrf1⟩ := Ext.rules hb1; have hz1 : w.heap.size < w1.heap.size := (Nat.lt_of_lt_of_le (by simp) hb1.size); have hbw1 : Ext w w1 := (Ext.rfl'.al _).tr hb1; have hlist : t.list = ft.list := (by have := congrArg Tsk.list hcore; exact this); have HC := Lib.hid hlist; clear hcore htok hlist))
    | (go_at_call 19; refine (order_any s t.list _ (HS.out.ext (hbw1.al _)) hn HT.out).mono ?_; rintro e w2 ⟨v, l, rfl, hO, hb2, hp, hsd⟩; have hbw2 : Ext w w2 := (hbw1.al _).tr hb2; obtain ⟨A2, c2, rfl⟩ := own_shape hO.row; have HP := Lib.hid hp; have HSD := Lib.hid hsd; have hll : l.length ≤ 1000 := order_len hp hn; have HTT := Lib.hid (hO.tsks rfl (Nat.le_trans hll (by decide))); clear hp hsd hO)
    | (go_at_call 59; refine (place_any' A2 c2 l id _ HTT.out).mono ?_; rintro e w3 ⟨rfl, hb3⟩))
  · have hh : has = false := by simpa using ‹(!has) = true›
    go_ret
    refine ⟨[], ?_, hbw1.al _, fun h => by rw [hh] at h; cases h⟩
    rw [HA.out, hh]
    rfl
  · have hh : has = true := by simpa using ‹(!has) = false›
    go_ret
    refine ⟨l, ?_, hbw2.tr hb3, fun _ => ⟨?_, HSD.out⟩⟩
    · rw [HA.out, hh]
      rfl
    · rw [← HC.out]
      exact HP.out
end Go.Proofs.YthhmbijblpjfpaaGreat
