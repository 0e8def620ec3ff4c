/- slices.SortFunc at lists and at tasks, by the shelf's contract. -/
import Derived.Test.YthhmbijblpjfpaaGreatShelf
import Derived.Test.YthhmbijblpjfpaaGreatOrd
import Derived.Shelf.SlSortCmp.NoneTotal
import Derived.Shelf.SlGeneric
import Derived.Ground.SlsfProg
namespace Go.Proofs.YthhmbijblpjfpaaGreat
open Go.Shelf Go.RowKit Go.Lib Go.Sort
shelf_lay_g SlLaysF0.n6 Slsf 6 at Tryz 98 as Tryz.sfL
shelf_lay_g SlLaysF0.n6 Slsf 6 at Tryz 100 as Tryz.sfT

theorem sorted_out {α : Type} [Inhabited α] {lt : α → α → Bool} {l : List α} {d' : Array α} (hp : PermIn 0 l.toArray.size l.toArray d') (hs : SortedIn lt 0 l.toArray.size d') :
    d'.size = l.length ∧ d'.toList.Perm l ∧ Sd lt d'.toList 0 d'.toList.length := by
  have hsz : d'.size = l.length := by simpa using hp.1
  refine ⟨hsz, ?_, ?_⟩
  · have h := hp.2.2
    have e1 : d'.extract 0 l.toArray.size = d' := by
      rw [show l.toArray.size = d'.size by simp [hsz]]
      exact Array.extract_size
    rw [e1, Array.extract_size] at h
    simpa using h
  · intro i j _ hij hj
    rw [Array.length_toList] at hj
    have := hs i j (Nat.zero_le _) hij (by simpa [hsz] using hj)
    rw [getElem!_pos d' j hj, getElem!_pos d' i (by omega)] at this
    rw [gt_lt (by simpa using hj), gt_lt (by rw [Array.length_toList]; omega)]
    simpa using this
theorem cmpI_lt (a b : Int) : cmpI a b < 0 ↔ a < b := by
  rw [cmpI_eq]
  split
  · simp [*]
  · split <;> simp [*]
theorem swo_id {α : Type} (f : α → Int) : SWO (ltOf fun x y => cmpI (f x) (f y)) where
  irrefl x := by simp [ltOf, cmpI_lt]
  trans x y z h1 h2 := by simp [ltOf, cmpI_lt] at *; omega
  ntrans x y z h1 h2 := by simp [ltOf, cmpI_lt] at *; omega

set_option maxHeartbeats 1000000 in
theorem canon1_any (x y : Lst) (W : World) : Calls Tryz.prog 99 #[.agg (Lst.row x).toArray, .agg (Lst.row y).toArray] W fun e w' => e = .returned (.int .i64 (cmpI x.id y.id)) ∧ ∃ q os', w' = grow (W.drewN q) os' := by
  have hcon := fun W' => compare_any x.id y.id W'
  generalize cmpI x.id y.id = r at hcon ⊢
  go_enter Tryz.func99, Tryz.ntmps99
  go_wp2_with (go_at_call 64; refine (hcon _).mono ?_; rintro e w' ⟨rfl, rfl⟩)
  go_ret
  exact ⟨rfl, 0, _, by rw [alloc_eq_grow, alloc_eq_grow, grow_grow]; rfl⟩
set_option maxHeartbeats 1000000 in
theorem canon2_any (x y : Tsk) (W : World) : Calls Tryz.prog 101 #[.agg (Tsk.row x).toArray, .agg (Tsk.row y).toArray] W fun e w' => e = .returned (.int .i64 (cmpI x.id y.id)) ∧ ∃ q os', w' = grow (W.drewN q) os' := by
  have hcon := fun W' => compare_any x.id y.id W'
  generalize cmpI x.id y.id = r at hcon ⊢
  go_enter Tryz.func101, Tryz.ntmps101
  go_wp2_with (go_at_call 64; refine (hcon _).mono ?_; rintro e w' ⟨rfl, rfl⟩)
  go_ret
  exact ⟨rfl, 0, _, by rw [alloc_eq_grow, alloc_eq_grow, grow_grow]; rfl⟩

theorem sortLst_any (g cap : Nat) (l : List Lst) (rest : List Value) (w : World) (hB : Blk w g 50 (l.flatMap Lst.row ++ rest)) (hn : l.length ≤ 1000000) :
    Calls Tryz.prog 98 #[.slice (some ⟨g, 0, none⟩) l.length cap, .func (.func 99) #[] #[]] w
      fun e w' => e = .returned (.tuple #[]) ∧ ∃ l' : List Lst, l'.Perm l ∧ Sd (ltOf fun x y => cmpI x.id y.id) l' 0 l'.length ∧ Blk w' g 50 (l'.flatMap Lst.row ++ rest) ∧ Srt g w w' := by
  have eg : ∀ args w, (callFunc 99 args).run Tryz.prog w = .ok (.enter 99 args) w := enters_of Tryz.func99 (by kernel_rfl) rfl
  have hcon := AnyQ.slices_SortFunc Tryz.sfL 2 Tryz.isAgg50 Tryz.sizeOf50 Lst.row (fun _ => rfl) (fun x v hv => by simp [Lst.row] at hv; rcases hv with rfl | rfl <;> rfl) (fun x y => cmpI x.id y.id) (swo_id Lst.id) 99 #[] g 0 cap l.toArray w eg (fun _ _ _ _ x y => canon1_any x y _) (holdsK_blk (k := 2) (by decide) (fun _ => rfl) hB) hB.lt (by simp; omega)
  change Calls Tryz.prog 98 _ _ _ at hcon
  refine hcon.mono ?_
  rintro e w' ⟨rfl, d', n, os, hp, hs, rfl⟩
  obtain ⟨h1, h2, h3⟩ := sorted_out hp hs
  obtain ⟨h4, h5⟩ := sortWorldK_blk (k := 2) (by decide) (fun _ => rfl) hB d' h1 n os
  exact ⟨rfl, d'.toList, h2, h3, h4, h5⟩
theorem sortTsk_any (g cap : Nat) (l : List Tsk) (rest : List Value) (w : World) (hB : Blk w g 36 (l.flatMap Tsk.row ++ rest)) (hn : l.length ≤ 1000000) :
    Calls Tryz.prog 100 #[.slice (some ⟨g, 0, none⟩) l.length cap, .func (.func 101) #[] #[]] w
      fun e w' => e = .returned (.tuple #[]) ∧ ∃ l' : List Tsk, l'.Perm l ∧ Sd (ltOf fun x y => cmpI x.id y.id) l' 0 l'.length ∧ Blk w' g 36 (l'.flatMap Tsk.row ++ rest) ∧ Srt g w w' := by
  have eg : ∀ args w, (callFunc 101 args).run Tryz.prog w = .ok (.enter 101 args) w := enters_of Tryz.func101 (by kernel_rfl) rfl
  have hcon := AnyQ.slices_SortFunc Tryz.sfT 7 Tryz.isAgg36 Tryz.sizeOf36 Tsk.row (fun _ => rfl) tsk_one (fun x y => cmpI x.id y.id) (swo_id Tsk.id) 101 #[] g 0 cap l.toArray w eg (fun _ _ _ _ x y => canon2_any x y _) (holdsK_blk (k := 7) (by decide) (fun _ => rfl) hB) hB.lt (by simp; omega)
  change Calls Tryz.prog 100 _ _ _ at hcon
  refine hcon.mono ?_
  rintro e w' ⟨rfl, d', n, os, hp, hs, rfl⟩
  obtain ⟨h1, h2, h3⟩ := sorted_out hp hs
  obtain ⟨h4, h5⟩ := sortWorldK_blk (k := 7) (by decide) (fun _ => rfl) hB d' h1 n os
  exact ⟨rfl, d'.toList, h2, h3, h4, h5⟩
theorem sortLst_none (c : Nat) (F : Value) (w : World) : Calls Tryz.prog 98 #[.slice none 0 c, F] w fun e w' => e = .returned (.tuple #[]) ∧ w' = w := by
  have h := AnyF.slices_SortFunc_none (P := Tryz.prog) (ρ := Tryz.sfL_ren) { Tryz.sfL with } none c F w
  exact h
theorem sortTsk_none (c : Nat) (F : Value) (w : World) : Calls Tryz.prog 100 #[.slice none 0 c, F] w fun e w' => e = .returned (.tuple #[]) ∧ w' = w := by
  have h := AnyF.slices_SortFunc_none (P := Tryz.prog) (ρ := Tryz.sfT_ren) { Tryz.sfT with } none c F w
  exact h
end Go.Proofs.YthhmbijblpjfpaaGreat
