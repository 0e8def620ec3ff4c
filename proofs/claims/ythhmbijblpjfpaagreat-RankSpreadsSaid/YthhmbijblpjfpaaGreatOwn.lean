/- Rows that a call owns, read as rows; a copy of tags. -/
import Derived.Test.YthhmbijblpjfpaaGreatStable
import Derived.OwnWalk
import Derived.Lib.LazyBuf
namespace Go.Proofs.YthhmbijblpjfpaaGreat
open Go.RowKit

instance : Inhabited Lst := ⟨noLst⟩

theorem own_form {w : World} {base : Nat} {e : TypeId} {k : Nat} {v : Value} {n : Nat} {xs : List Value} (h : w.ownsRow base e k v n xs) :
    (v = .slice none 0 0 ∧ n = 0 ∧ xs = []) ∨ ∃ g cap, v = .slice (some ⟨g, 0, none⟩) n cap ∧ base ≤ g ∧ g < w.heap.size ∧ n ≤ cap ∧ ∃ rest, Blk w g e (xs ++ rest) := by
  rcases h.2 with ⟨hv, hn⟩ | ⟨g, cap, cur, hv, hb, hg, hnc, _, hs, ht⟩
  · refine .inl ⟨hv, hn, List.eq_nil_of_length_eq_zero (by rw [h.1, hn]; simp)⟩
  · refine .inr ⟨g, cap, hv, hb, (Array.getElem?_eq_some_iff.1 hg).1, hnc, cur.toList.drop (n * k), ?_⟩
    unfold Blk
    rw [← ht, List.take_append_drop]
    exact hg
/-- a row back from a block -/
theorem own_of_blk {w w' : World} {base : Nat} {e : TypeId} {k : Nat} {g n cap : Nat} {xs ys rest : List Value} (h : w.ownsRow base e k (.slice (some ⟨g, 0, none⟩) n cap) n xs) (hb0 : Blk w g e (xs ++ rest)) (hb : Blk w' g e (ys ++ rest)) (hl : ys.length = xs.length) :
    w'.ownsRow base e k (.slice (some ⟨g, 0, none⟩) n cap) n ys := by
  rcases h.2 with ⟨hv, _⟩ | ⟨g', cap', cur, hv, hbg, hg, hnc, hcm, hs, ht⟩
  · cases hv
  · injection hv with h1 _ h3
    injection h1 with h1
    injection h1 with h1
    subst h1 h3
    refine ⟨hl.trans h.1, .inr ⟨g, cap, _, rfl, hbg, hb, hnc, hcm, ?_, ?_⟩⟩
    · have : cur.toList = xs ++ rest := by
        have h9 := hg.symm.trans hb0
        injection h9 with h9
        injection h9 with h9
        rw [h9]
      have h10 : cur.size = (xs ++ rest).length := by rw [← this]; simp
      rw [← hs, h10]
      simp [hl]
    · have : n * k = ys.length := by rw [hl, h.1]
      rw [this]
      simp
theorem rows_of_own {α : Type} [Inhabited α] {w : World} {base : Nat} {e : TypeId} {k : Nat} {A : Option Addr} {n c : Nat} {l : List α} {enc : α → List Value} (hk : ∀ x, (enc x).length = k) (hk0 : 0 < k) (h : w.ownsRow base e k (.slice A n c) n (l.flatMap enc)) :
    RowsAt w k A (l.map enc) := by
  intro hne
  rcases own_form h with ⟨_, _, hx⟩ | ⟨g, cap, hv, _, _, _, rest, hb⟩
  · exfalso
    cases l with
    | nil => exact hne rfl
    | cons x xs =>
      simp only [List.flatMap_cons, List.append_eq_nil_iff] at hx
      have := hk x
      rw [hx.1] at this
      simp at this
      omega
  · injection hv with h1
    subst h1
    refine ⟨_, rfl, fun i r hi => ?_⟩
    have hlt : i < l.length := by
      have := (List.getElem?_eq_some_iff.1 hi).1
      simpa using this
    have hr : r = enc (gt l i) := by
      rw [List.getElem?_map, List.getElem?_eq_getElem hlt] at hi
      injection hi with hi
      rw [gt_lt hlt]
      exact hi.symm
    subst hr
    refine ⟨hk _, ?_⟩
    rw [addLit, Nat.zero_add]
    exact hb.cellsAt (i * k) _ fun j u hu => flat_get enc k hk rest l i j u hlt hu

theorem str_info : (Tryz.prog.info? 9).map (fun i => (i.zero, i.size, i.bytes)) = some (some (.string ⟨#[]⟩), 1, 16) := by kernel_rfl
theorem tsk_info : (Tryz.prog.info? 36).map (fun i => (i.zero, i.size, i.bytes)) = some (some (.agg (Tsk.row noTsk).toArray), 7, 80) := by kernel_rfl
theorem lst_info : (Tryz.prog.info? 50).map (fun i => (i.zero, i.size, i.bytes)) = some (some (.agg (Lst.row noLst).toArray), 2, 24) := by kernel_rfl

abbrev strEnc (s : ByteArray) : List Value := [.string s]
theorem flat_str : ∀ l : List ByteArray, l.flatMap strEnc = l.map Value.string
  | [] => rfl
  | x :: xs => by simp [flat_str xs]
theorem news_of_rows {w : World} {ad : Addr} {l : List ByteArray} (h : RowsAt w 1 (some ad) (strRows l)) : ∀ j u, (l.map Value.string)[j]? = some u → w.cell? (ad.add j) = some u := by
  intro j u hj
  have hlt : j < l.length := by
    have := (List.getElem?_eq_some_iff.1 hj).1
    simpa using this
  obtain ⟨ad', x, he, hc, hx⟩ := strRows_at h hlt
  injection he with he
  subst he
  rw [List.getElem?_map, hx] at hj
  injection hj with hj
  rw [← hj]
  exact hc

theorem none_nil {w : World} {l : List ByteArray} (h : RowsAt w 1 none (strRows l)) : l = [] := by
  cases l with
  | nil => rfl
  | cons x xs =>
    obtain ⟨ad, he, _⟩ := h (by simp)
    cases he

/-- a copy of strings: a row of the call's own -/
theorem clone_any (A : Option Addr) (c : Nat) (l : List ByteArray) (w : World) (hn : l.length ≤ 1000000) (hr : RowsAt w 1 A (strRows l)) :
    Calls Tryz.prog 60 #[.slice A l.length c] w fun e w' => ∃ v, e = .returned v ∧ Ext w w' ∧ w'.ownsRow w.heap.size 9 1 v l.length (l.map Value.string) ∧ (v = .slice none 0 0 ↔ A = none) := by
  have hA : A = none → l = [] := fun h => none_nil (by rw [h] at hr; exact hr)
  obtain ⟨i0, hi0, hz0, hz1, hz2⟩ := info_parts str_info
  have hnil := fun w => Lib.run_eql_slice_nil (P := Tryz.prog) w 34 9 A l.length c 0 0 Tryz.underlying34
  rcases A with _ | ad
  · obtain rfl := hA rfl
    clear hnil
    have hnil := fun w => Lib.run_eql_slice_nil (P := Tryz.prog) w 34 9 none 0 c 0 0 Tryz.underlying34
    show Calls Tryz.prog _ #[.slice none 0 c] w _
    go_enter Tryz.func60, Tryz.ntmps60
    go_wp2
    go_ret
    exact ⟨_, rfl, Ext.rfl', World.ownsRow_nil _ _ _ _, by simp⟩
  · have HN := Lib.hid (fun w' (h : Ext w w') => news_of_rows (h.rows hr))
    clear hr hA
    go_enter Tryz.func60, Tryz.ntmps60
    go_wp2_with (at_builtin; refine wpList_append_own_at _ rfl (.tmp 5) (.tmp 6) 34 rfl w.heap.size 9 i0 _ 1 16 Tryz.underlying34 hi0 hz0 hz1 hz2 rfl (by omega) (.slice (some ⟨w.heap.size, 0, none⟩) 0 0) 0 [] rfl (by exact World.ownsRow_lit w #[] 0 (Nat.le_refl _) (by simp [maxLen]) rfl) ad l.length c (l.map Value.string) rfl (by simp) (HN.out _ (Ext.rfl'.al _)) (by intro u hu; obtain ⟨s, _, rfl⟩ := List.mem_map.1 hu; rfl) (by simp only [maxLen]; omega) (by omega) (by simp) ?_; intro v1 w1 hown1 hg1 hnl1 hat1)
    go_ret
    refine ⟨v1, rfl, ?_, by simpa using hown1, by simpa using hnl1⟩
    exact (Ext.rfl'.al _).trans (Below.grown (Below.refl _ _) hg1 (by simp) (fun k hk => by simp [Value.ownBlock] at hk; omega))
end Go.Proofs.YthhmbijblpjfpaaGreat
