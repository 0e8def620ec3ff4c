/- Lists and tasks by their Ids. -/
import Derived.Test.YthhmbijblpjfpaaGreatData
namespace Go.Proofs.YthhmbijblpjfpaaGreat
open Go.RowKit

theorem store_float (w : World) (a : Addr) (m : Mode) (b : Nat) : Sem.run Tryz.prog (store a (.float .f64 b) m) w = stored Tryz.prog w a (.float .f64 b) m := run_store Tryz.prog w a _ m rfl
def noLst : Lst := ⟨0, ⟨#[]⟩⟩
noncomputable def findLst : (List Lst) → Int → Lst := Classical.choose (laid fun (l : List Lst) (id : Int) => ((l.find? fun x => x.id == id).getD noLst : Lst))
theorem findLst_eq (l : List Lst) (id : Int) : findLst l id = ((l.find? fun x => x.id == id).getD noLst : Lst) := laid2 _ l id


theorem firstAt_cases {α : Type} (p : α → Bool) : ∀ l : List α, (firstAt p l = -1 ∧ l.any p = false ∧ l.find? p = none) ∨ ∃ k x, firstAt p l = ((k : Nat) : Int) ∧ l[k]? = some x ∧ p x = true ∧ l.any p = true ∧ l.find? p = some x
  | [] => .inl ⟨rfl, rfl, rfl⟩
  | y :: ys => by
    by_cases hy : p y = true
    · exact .inr ⟨0, y, by simp [firstAt, hy], rfl, hy, by simp [hy], by simp [hy]⟩
    · rcases firstAt_cases p ys with ⟨h1, h2, h3⟩ | ⟨k, x, h1, h2, h3, h4, h5⟩
      · exact .inl ⟨by simp [firstAt, hy, h1], by simp [hy, h2], by simp [hy, h3]⟩
      · exact .inr ⟨k + 1, x, by simp [firstAt, hy, h1]; omega, by simpa using h2, h3, by simp [h4], by simp [hy, h5]⟩

theorem lists_any (s : Sta) (id : Int) (w : World) (hs : s.ok w) :
    Calls Tryz.prog 66 #[s.val, .int .u64 id] w fun e w' => e = .returned (.tuple #[(findLst s.lists id).val, .bool (hasLst s.lists id)]) ∧ Ext w w' := by
  have hl := hs.lists.few
  rcases firstAt_cases (fun x : Lst => x.id == id) s.lists with ⟨h1, h2, h3⟩ | ⟨k, x, h1, h2, h3, h4, h5⟩
  · have E1 := Lib.hid (show findLst s.lists id = noLst by rw [findLst_eq, h3]; rfl)
    have E2 := Lib.hid (show hasLst s.lists id = false by rw [hasLst_eq, h2])
    have HI := fun W (h : LstsAt W s.lA s.lists) hp => Lib.hid (indexFunc_lst s.lA s.lC s.lists 109 #[.pointer (some ⟨w.heap.size + 1, 0, none⟩)] (fun x : Lst => x.id == id) W enters_lists1 h hp)
    rw [h1] at HI
    have HS := Lib.hid hs
    clear h1 h2 h3 hs
    go_enter Tryz.func66, Tryz.ntmps66
    go_wp2_with (go_at_call 108; refine (HI _ (HS.out.lists.ext (by exact ((Ext.rfl'.al _).al _).al _)) (fun x w' h => lists1_any x _ id w' (h.cell_ (by simp [go_sem])))).out.mono ?_; rintro e w1 ⟨rfl, hb1⟩; obtain ⟨hrc, hrf⟩ := Ext.rules hb1)
    refine bodyPost_ret (v := .tuple #[noLst.val, .bool false]) (by simp [results, Tryz.results66, go_sem, hrc, hrf, noLst]) rfl ⟨by rw [E1.out, E2.out], ?_⟩
    exact ((((Ext.rfl'.al _).al _).al _).tr hb1 |>.st (by simp; omega) _).st (by simp; omega) _
  · have E1 := Lib.hid (show findLst s.lists id = x by rw [findLst_eq, h5]; rfl)
    have E2 := Lib.hid (show hasLst s.lists id = true by rw [hasLst_eq, h4])
    have HI := fun W (h : LstsAt W s.lA s.lists) hp => Lib.hid (indexFunc_lst s.lA s.lC s.lists 109 #[.pointer (some ⟨w.heap.size + 1, 0, none⟩)] (fun x : Lst => x.id == id) W enters_lists1 h hp)
    rw [h1] at HI
    have hk : k < s.lists.length := (List.getElem?_eq_some_iff.1 h2).1
    obtain ⟨ad, x', hA, hx', hc⟩ := hs.lists.at_ hk
    have : x' = x := by rw [h2] at hx'; injection hx' with hx'; exact hx'.symm
    subst this
    have HC := fun w' (h : Ext w w') => Lib.hid (h.cells hc)
    have HS := Lib.hid hs
    have HA := Lib.hid hA
    clear h1 h2 h3 h4 h5 hs hx' hc
    obtain ⟨sl, st, lA, lC, tA, tC⟩ := s
    dsimp only at hA
    subst hA
    go_enter Tryz.func66, Tryz.ntmps66
    go_wp2_with (first
      | (go_at_call 108; refine (HI _ (HS.out.lists.ext (by exact ((Ext.rfl'.al _).al _).al _)) (fun x w' h => lists1_any x _ id w' (h.cell_ (by simp [go_sem])))).out.mono ?_; rintro e w1 ⟨rfl, hb1⟩; obtain ⟨hrc, hrf⟩ := Ext.rules hb1; have hbw : Ext w w1 := (((Ext.rfl'.al _).al _).al _).tr hb1)
      | (refine wpList_load_cells rfl 50 (.tmp 17) rfl (ad.add (k * 2)) (Lst.row x') rfl _ (HC _ hbw).out Tryz.underlying50 rfl lst_size ?_))
    refine bodyPost_ret (v := .tuple #[x'.val, .bool true]) (by simp [results, Tryz.results66, go_sem, hrc, hrf]) rfl ⟨by rw [E1.out, E2.out], ?_⟩
    exact (hbw.st (by simp; omega) _).st (by simp; omega) _
end Go.Proofs.YthhmbijblpjfpaaGreat
