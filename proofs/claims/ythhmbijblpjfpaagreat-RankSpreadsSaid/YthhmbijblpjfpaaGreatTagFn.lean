/- slices.Sort, slices.Compact at strings, by the shelf's contracts. -/
import Derived.Test.YthhmbijblpjfpaaGreatShelf
import Derived.Shelf.SortM.Plain
import Derived.Shelf.SortM.SortNone
import Derived.Shelf.SlicesE.Compact
import Derived.Shelf.SlGeneric
import Derived.Ground.SlgmProg
import Derived.Ground.SlgnProg
namespace Go.Proofs.YthhmbijblpjfpaaGreat
open Go.Shelf Go.RowKit Go.Lib Go.Sort
shelf_lay_g SlLaysM.n6 Slgm 6 at Tryz 136 as Tryz.stS
shelf_lay_g SlLaysE.n43 Slgn 43 at Tryz 137 as Tryz.cmS

abbrev bsOf (s : ByteArray) : List UInt8 := s.data.toList
abbrev ofBs (l : List UInt8) : ByteArray := ⟨l.toArray⟩
theorem enc_bs (l : List ByteArray) : (l.map bsOf).map encStr = l.map Value.string := by
  rw [List.map_map]
  apply List.map_congr_left
  intro s _
  cases s
  simp [encStr, bsOf]
theorem enc_of (l : List (List UInt8)) : l.map encStr = (l.map ofBs).map Value.string := by
  rw [List.map_map]
  apply List.map_congr_left
  intro s _
  rfl
noncomputable def sortTags : (List ByteArray) → (List ByteArray) := Classical.choose (laid fun (l : List ByteArray) => (((l.map bsOf).mergeSort fun x y => decide (x ≤ y)).map ofBs : List ByteArray))
theorem sortTags_eq (l : List ByteArray) : sortTags l = (((l.map bsOf).mergeSort fun x y => decide (x ≤ y)).map ofBs : List ByteArray) := laid1 _ l


noncomputable def compTags : (List ByteArray) → (List ByteArray) := Classical.choose (laid fun (l : List ByteArray) => ((compact (l.map bsOf)).map ofBs : List ByteArray))
theorem compTags_eq (l : List ByteArray) : compTags l = ((compact (l.map bsOf)).map ofBs : List ByteArray) := laid1 _ l


theorem eql_str : EqlAt Tryz.prog 9 encStr (fun x y => decide (x = y)) :=
  ⟨fun x y w => by
    have := (EqlAt.string Tryz.prog 9).1 (ofBs x) (ofBs y) w
    rw [this]
    simp [ByteArray.toList_eq]
    by_cases h : x = y <;> simp [h],
   fun op a b x y w => (EqlAt.string Tryz.prog 9).2 op a b (ofBs x) (ofBs y) w⟩
theorem neq_str : NeqAt Tryz.prog 9 encStr (fun x y => decide (x = y)) :=
  ⟨fun x y w => by
    have := (NeqAt.string Tryz.prog 9).1 (ofBs x) (ofBs y) w
    rw [this]
    simp [ByteArray.toList_eq]
    by_cases h : x = y <;> simp [h],
   fun op a b x y w => (NeqAt.string Tryz.prog 9).2 op a b (ofBs x) (ofBs y) w⟩

theorem sortTags_any (g cap : Nat) (l : List ByteArray) (rest : List Value) (w : World) (hB : Blk w g 9 (l.map Value.string ++ rest)) (hn : l.length ≤ 1000000) :
    Calls Tryz.prog 136 #[.slice (some ⟨g, 0, none⟩) l.length cap] w fun e w' => e = .returned (.tuple #[]) ∧ Blk w' g 9 ((sortTags l).map Value.string ++ rest) ∧ Srt g w w' := by
  have hB' : Blk w g 9 ((l.map bsOf).map encStr ++ rest) := by rw [enc_bs]; exact hB
  have hcon := AnyM.slices_Sort_string Tryz.stS g 0 cap (l.map bsOf) w (holds_blk hB') hB.lt (by simp; omega)
  change Calls Tryz.prog 136 _ _ _ at hcon
  rw [List.length_map] at hcon
  refine hcon.mono ?_
  rintro e w' ⟨rfl, n, os, rfl⟩
  obtain ⟨h1, h2⟩ := sortWorld_blk (enc := encStr) hB' ((l.map bsOf).mergeSort fun x y => decide (x ≤ y)).toArray (by simp) n os
  refine ⟨rfl, ?_, h2⟩
  rw [sortTags_eq, ← enc_of]
  exact h1
theorem sortTags_none (c : Nat) (w : World) : Calls Tryz.prog 136 #[.slice none 0 c] w fun e w' => e = .returned (.tuple #[]) ∧ w' = w :=
  AnyM.slices_Sort_string_none Tryz.stS none c w
theorem compTags_any (g cap : Nat) (l : List ByteArray) (rest : List Value) (w : World) (hB : Blk w g 9 (l.map Value.string ++ rest)) (hn : l.length ≤ 1000000) (hc : l.length ≤ cap) :
    Calls Tryz.prog 137 #[.slice (some ⟨g, 0, none⟩) l.length cap] w fun e w' => e = .returned (.slice (some ⟨g, 0, none⟩) (compTags l).length cap) ∧
      (compTags l).length ≤ l.length ∧ Blk w' g 9 ((compTags l).map Value.string ++ (List.replicate (l.length - (compTags l).length) (.string ⟨#[]⟩) ++ rest)) ∧ Srt g w w' := by
  have hB' : Blk w g 9 ((l.map bsOf).map encStr ++ rest) := by rw [enc_bs]; exact hB
  have hcon := AnyE.slices_Compact Tryz.cmS encStr (fun _ => rfl) eql_str neq_str [] Tryz.zeroValue9 g 0 cap (l.map bsOf).toArray w (holds_blk hB') (by simp; omega) (by simpa using hc)
  change Calls Tryz.prog 137 _ _ _ at hcon
  simp only [List.size_toArray, List.length_map] at hcon
  have hle : (compactUpTo (l.map bsOf).toArray l.length).length ≤ l.length := by
    unfold compactUpTo
    rw [List.length_map]
    exact Nat.le_trans (List.length_filter_le _ _) (by simp)
  have hce : compTags l = (compactUpTo (l.map bsOf).toArray l.length).map ofBs := by
    rw [compTags_eq]
    unfold compact
    rw [List.length_map]
  have hcl : (compTags l).length = (compactUpTo (l.map bsOf).toArray l.length).length := by rw [hce, List.length_map]
  refine hcon.mono ?_
  rintro e w' ⟨rfl, n, rfl⟩
  have hs := sortWorld_blk (enc := encStr) hB' (compactUpTo (l.map bsOf).toArray l.length ++ List.replicate (l.length - (compactUpTo (l.map bsOf).toArray l.length).length) []).toArray (by simp; omega) n #[]
  rw [grow_empty] at hs
  refine ⟨by rw [hcl], by rw [hcl]; exact hle, ?_, hs.2⟩
  have h1 := hs.1
  rw [List.map_append, List.map_replicate, List.append_assoc, enc_of, ← hce] at h1
  rw [hcl]
  exact h1
end Go.Proofs.YthhmbijblpjfpaaGreat
