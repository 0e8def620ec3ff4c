/- The walks of the stable sort: merging, the whole. -/
import Derived.Test.YthhmbijblpjfpaaGreatSort3
namespace Go.Proofs.YthhmbijblpjfpaaGreat
open Go.RowKit

theorem rotL_len (m : Nat) : ∀ (d i j : Nat) (l : List Tsk), i + j ≤ d → (rotL m i j l).length = l.length
  | 0, i, j, l, h => by rw [rotL, dif_pos (by omega)]
  | d + 1, i, j, l, h => by
    rw [rotL]
    split
    · rfl
    · split
      · exact swR_len _ _ _ _ 0 _ rfl
      · split
        · rw [rotL_len m d _ _ _ (by omega), swR_len _ _ _ _ 0 _ rfl]
        · rw [rotL_len m d _ _ _ (by omega), swR_len _ _ _ _ 0 _ rfl]
theorem rot_len (a m b : Nat) (l : List Tsk) : (rot a m b l).length = l.length := rotL_len m _ _ _ l (Nat.le_refl _)
theorem upW_len (b : Nat) : ∀ (d k : Nat) (l : List Tsk), b - k ≤ d → (upW b k l).length = l.length
  | 0, k, l, h => by rw [upW_end (by omega)]
  | d + 1, k, l, h => by
    by_cases hk : k < b
    · rw [upW_go hk, upW_len b d _ _ (by omega), swp_len]
    · rw [upW_end hk]
theorem dnW_len (i : Nat) : ∀ (k : Nat) (l : List Tsk), (dnW i k l).length = l.length
  | 0, l => rfl
  | k + 1, l => by
    unfold dnW
    split
    · rw [dnW_len i k, swp_len]
    · rfl
theorem symM_len (lt : Tsk → Tsk → Bool) : ∀ (f a m b : Nat) (l : List Tsk), (symM lt f a m b l).length = l.length
  | 0, _, _, _, _ => rfl
  | f + 1, a, m, b, l => by
    unfold symM
    split
    · exact upW_len _ _ _ _ (Nat.le_refl _)
    · split
      · exact dnW_len _ _ _
      · dsimp only
        have h1 : ∀ (c1 : Prop) [Decidable c1] s e, (if c1 then rot s m e l else l).length = l.length := fun c1 _ s e => by split <;> simp [rot_len]
        have h2 : ∀ (c2 : Prop) [Decidable c2] x y z (k : List Tsk), (if c2 then symM lt f x y z k else k).length = k.length := fun c2 _ x y z k => by split <;> simp [symM_len lt f]
        rw [h2, h2, h1]
/-- the search of the merge -/
abbrev mergeP (lt : Tsk → Tsk → Bool) (l : List Tsk) (n : Nat) (c : Nat) : Bool := !lt (gt l (n - 1 - c)) (gt l c)
theorem symM_C {lt : Tsk → Tsk → Bool} {f a m b s : Nat} {l : List Tsk} (h1 : ¬ m - a = 1) (h2 : ¬ b - m = 1)
    (hs : (if (a + b) / 2 < m then bs (mergeP lt l ((a + b) / 2 + m)) ((a + b) / 2 + m - b) ((a + b) / 2) else bs (mergeP lt l ((a + b) / 2 + m)) a m) = s) :
    symM lt (f + 1) a m b l = (fun l2 => if (a + b) / 2 < (a + b) / 2 + m - s ∧ (a + b) / 2 + m - s < b then symM lt f ((a + b) / 2) ((a + b) / 2 + m - s) b l2 else l2)
      ((fun l1 => if a < s ∧ s < (a + b) / 2 then symM lt f a s ((a + b) / 2) l1 else l1) (if s < m ∧ m < (a + b) / 2 + m - s then rot s m ((a + b) / 2 + m - s) l else l)) := by
  subst hs
  rw [symM, if_neg h1, if_neg h2]

set_option maxRecDepth 100000 in
set_option maxHeartbeats 4000000 in
theorem symMerge_C1 (f : Nat) (ih : ∀ (g c a m b : Nat) (va vm vb : Int) (F : Nat) (caps : Array Value) (cf : Tsk → Tsk → Int) (l : List Tsk) (len : Nat) (rest : List Value) (w : World)
    (hF : ∀ args w, Sem.run Tryz.prog (callFunc F args) w = .ok (.enter F args) w) (hc : CmpOK F caps cf g w)
    (hva : va = (a : Int)) (hvm : vm = (m : Int)) (hvb : vb = (b : Int)) (hlen : l.length = len) (hB : RB w g l rest) (ham : a < m) (hmb : m < b) (hb : b ≤ len) (hl : len ≤ 1000000) (hf : b - a ≤ f), Calls Tryz.prog 142 #[.slice (some ⟨g, 0, none⟩) len c, .int .i64 va, .int .i64 vm, .int .i64 vb, .func (.func F) #[] caps] w
      fun e w' => e = .returned (.tuple #[]) ∧ RB w' g (symM (ltc cf) f a m b l) rest ∧ Srt g w w') (g c a m b : Nat) (va vm vb : Int) (F : Nat) (caps : Array Value) (cf : Tsk → Tsk → Int) (l : List Tsk) (len : Nat) (rest : List Value) (w : World)
    (hF : ∀ args w, Sem.run Tryz.prog (callFunc F args) w = .ok (.enter F args) w) (hc : CmpOK F caps cf g w)
    (hva : va = (a : Int)) (hvm : vm = (m : Int)) (hvb : vb = (b : Int)) (hlen : l.length = len) (hB : RB w g l rest) (ham : a < m) (hmb : m < b) (hb : b ≤ len) (hl : len ≤ 1000000) (hf : b - a ≤ f + 1) (h1 : ¬ m - a = 1) (h2 : ¬ b - m = 1) (hM : (a + b) / 2 < m) :
    Calls Tryz.prog 142 #[.slice (some ⟨g, 0, none⟩) len c, .int .i64 va, .int .i64 vm, .int .i64 vb, .func (.func F) #[] caps] w
      fun e w' => e = .returned (.tuple #[]) ∧ RB w' g (symM (ltc cf) (f + 1) a m b l) rest ∧ Srt g w w' := by
  subst hva hvm hvb
  have Hcmp := Lib.hid hc
  have HL := Lib.hid hlen
  have HB0 := Lib.hid hB
  clear hlen hB hc
  have hd1 : ((m : Int) - (a : Int) == 1) = false := by simp; omega
  have hd2 : ((b : Int) - (m : Int) == 1) = false := by simp; omega
  go_enter Tryz.func142, Tryz.ntmps142
  go_wp2_with fail
  go_loopw [20, 21] (fun vi vj wr => ∃ (i j : Nat), (((a + b) / 2 + m) - b) ≤ i ∧ i ≤ j ∧ j ≤ ((a + b) / 2) ∧ vi = .int .i64 i ∧ vj = .int .i64 j ∧ RB wr g l rest ∧ Srt g w wr ∧ bs (mergeP (ltc cf) l ((a + b) / 2 + m)) (((a + b) / 2 + m) - b) ((a + b) / 2) = bs (mergeP (ltc cf) l ((a + b) / 2 + m)) i j) (fun vi vj _ => (intOf vj).toNat - (intOf vi).toNat)
  case atStart => exact ⟨(((a + b) / 2 + m) - b), ((a + b) / 2), Nat.le_refl _, by omega, Nat.le_refl _, congrArg (Value.int .i64) (by omega), congrArg (Value.int .i64) (by omega), HB0.out, Srt.rfl', rfl⟩
  case round =>
    obtain ⟨i, j, hmi, hij, hjb, rfl, rfl, hB, hS, hR⟩ := hrel
    have HC := HL
    have HR := Lib.hid hR
    have HB := Lib.hid hB
    clear hR hB
    by_cases hlt : i < j
    · go_wp2_with fail
      obtain ⟨ex, hex⟩ : ∃ e, gt l (((a + b) / 2 + m) - 1 - (i + j) / 2) = e := ⟨_, rfl⟩
      obtain ⟨ey, hey⟩ : ∃ e, gt l ((i + j) / 2) = e := ⟨_, rfl⟩
      have HX := Lib.hid hex
      have HY := Lib.hid hey
      clear hex hey
      have hp : mergeP (ltc cf) l ((a + b) / 2 + m) ((i + j) / 2) = !decide (cf ex ey < 0) := by simp only [mergeP, ltc]; rw [HX.out, HY.out]
      have HP := Lib.hid hp
      clear hp
      by_cases hlt2 : cf ex ey < 0
      · have hd3 : decide (cf ex ey < 0) = true := by simpa using hlt2
        refine wp_region_dets (by kernel_rfl) [] (fun _ w' => Srt g w w' ∧ RB w' g l rest) (by kernel_rfl) rfl ⟨hS.dr, HB.out⟩ ?_
        repeat (refine det_p _ rfl rfl (fun w => by go_simp; with_reducible rfl) ?_; simp only [Nat.reduceAdd, Act.put, List.setIfInBounds_toArray, List.set_cons_succ, List.set_cons_zero])
        refine det_p _ rfl rfl (fun w => run_index_at 23 _ _ rfl 36 7 g 0 len c (((a + b) / 2 + m) - 1 - (i + j) / 2) _ rfl rfl (by first | rfl | omega | exact wrap_in _ (by omega) (by omega) | (rw [wrap_in _ (by omega) (by omega)]; omega)) (by omega) Tryz.underlying23 tsk_size) ?_
        simp only [Nat.reduceAdd, Act.put, List.setIfInBounds_toArray, List.set_cons_succ, List.set_cons_zero]
        refine det_r (.agg (Tsk.row ex).toArray) rfl rfl (fun L w hV hn => by
          have hat := hV.2.at_ (i := ((a + b) / 2 + m) - 1 - (i + j) / 2) (by rw [HC.out]; omega)
          rw [HX.out] at hat
          exact run_load_cells 36 _ rfl ⟨g, (((a + b) / 2 + m) - 1 - (i + j) / 2) * 7, none⟩ (Tsk.row ex) (by show Value.pointer _ = _; rw [Nat.zero_add]) _ hat Tryz.underlying36 rfl tsk_size) ?_
        simp only [Nat.reduceAdd, Act.put, List.setIfInBounds_toArray, List.set_cons_succ, List.set_cons_zero]
        repeat (refine det_p _ rfl rfl (fun w => by go_simp; with_reducible rfl) ?_; simp only [Nat.reduceAdd, Act.put, List.setIfInBounds_toArray, List.set_cons_succ, List.set_cons_zero])
        refine det_p _ rfl rfl (fun w => run_index_at 23 _ _ rfl 36 7 g 0 len c ((i + j) / 2) _ rfl rfl (by first | rfl | omega | exact wrap_in _ (by omega) (by omega) | (rw [wrap_in _ (by omega) (by omega)]; omega)) (by omega) Tryz.underlying23 tsk_size) ?_
        simp only [Nat.reduceAdd, Act.put, List.setIfInBounds_toArray, List.set_cons_succ, List.set_cons_zero]
        refine det_r (.agg (Tsk.row ey).toArray) rfl rfl (fun L w hV hn => by
          have hat := hV.2.at_ (i := (i + j) / 2) (by rw [HC.out]; omega)
          rw [HY.out] at hat
          exact run_load_cells 36 _ rfl ⟨g, ((i + j) / 2) * 7, none⟩ (Tsk.row ey) (by show Value.pointer _ = _; rw [Nat.zero_add]) _ hat Tryz.underlying36 rfl tsk_size) ?_
        simp only [Nat.reduceAdd, Act.put, List.setIfInBounds_toArray, List.set_cons_succ, List.set_cons_zero]
        refine det_w (.int .i64 (cf ex ey)) rfl (fun L w hV hi hd hn => by
          refine wp_call_fn _ _ _ rfl F caps #[Tsk.val ex, Tsk.val ey] rfl (by simp only [List.map_toArray, List.map_cons, List.map_nil]; rfl) hF ?_
          refine (Hcmp.out ex ey w hV.1).mono ?_
          rintro e w' ⟨rfl, he⟩
          exact ⟨_, rfl, rfl, hV.1.tr (Srt.of_ext he), hV.2.ext he⟩) ?_
        simp only [Nat.reduceAdd, Act.put, List.setIfInBounds_toArray, List.set_cons_succ, List.set_cons_zero]
        repeat (refine det_p _ rfl rfl (fun w => by go_simp; with_reducible rfl) ?_; simp only [Nat.reduceAdd, Act.put, List.setIfInBounds_toArray, List.set_cons_succ, List.set_cons_zero])
        intro w1 hV
        have hS1 := hV.1
        have HB1 := Lib.hid hV.2
        clear hV
        clear hS HB
        have hS := hS1
        have HB := HB1
        clear hS1 HB1
        go_wp2
        go_roundw
        case rel => exact ⟨i, (i + j) / 2, by omega, by omega, by omega, rfl, congrArg (Value.int .i64) (by omega), HB.out, hS, by rw [HR.out, bs_go0 hlt (by rw [HP.out]; simp [hlt2])]⟩
        case measure => simp [intOf]; omega
      · have hd3 : decide (cf ex ey < 0) = false := by simpa using hlt2
        refine wp_region_dets (by kernel_rfl) [] (fun _ w' => Srt g w w' ∧ RB w' g l rest) (by kernel_rfl) rfl ⟨hS.dr, HB.out⟩ ?_
        repeat (refine det_p _ rfl rfl (fun w => by go_simp; with_reducible rfl) ?_; simp only [Nat.reduceAdd, Act.put, List.setIfInBounds_toArray, List.set_cons_succ, List.set_cons_zero])
        refine det_p _ rfl rfl (fun w => run_index_at 23 _ _ rfl 36 7 g 0 len c (((a + b) / 2 + m) - 1 - (i + j) / 2) _ rfl rfl (by first | rfl | omega | exact wrap_in _ (by omega) (by omega) | (rw [wrap_in _ (by omega) (by omega)]; omega)) (by omega) Tryz.underlying23 tsk_size) ?_
        simp only [Nat.reduceAdd, Act.put, List.setIfInBounds_toArray, List.set_cons_succ, List.set_cons_zero]
        refine det_r (.agg (Tsk.row ex).toArray) rfl rfl (fun L w hV hn => by
          have hat := hV.2.at_ (i := ((a + b) / 2 + m) - 1 - (i + j) / 2) (by rw [HC.out]; omega)
          rw [HX.out] at hat
          exact run_load_cells 36 _ rfl ⟨g, (((a + b) / 2 + m) - 1 - (i + j) / 2) * 7, none⟩ (Tsk.row ex) (by show Value.pointer _ = _; rw [Nat.zero_add]) _ hat Tryz.underlying36 rfl tsk_size) ?_
        simp only [Nat.reduceAdd, Act.put, List.setIfInBounds_toArray, List.set_cons_succ, List.set_cons_zero]
        repeat (refine det_p _ rfl rfl (fun w => by go_simp; with_reducible rfl) ?_; simp only [Nat.reduceAdd, Act.put, List.setIfInBounds_toArray, List.set_cons_succ, List.set_cons_zero])
        refine det_p _ rfl rfl (fun w => run_index_at 23 _ _ rfl 36 7 g 0 len c ((i + j) / 2) _ rfl rfl (by first | rfl | omega | exact wrap_in _ (by omega) (by omega) | (rw [wrap_in _ (by omega) (by omega)]; omega)) (by omega) Tryz.underlying23 tsk_size) ?_
        simp only [Nat.reduceAdd, Act.put, List.setIfInBounds_toArray, List.set_cons_succ, List.set_cons_zero]
        refine det_r (.agg (Tsk.row ey).toArray) rfl rfl (fun L w hV hn => by
          have hat := hV.2.at_ (i := (i + j) / 2) (by rw [HC.out]; omega)
          rw [HY.out] at hat
          exact run_load_cells 36 _ rfl ⟨g, ((i + j) / 2) * 7, none⟩ (Tsk.row ey) (by show Value.pointer _ = _; rw [Nat.zero_add]) _ hat Tryz.underlying36 rfl tsk_size) ?_
        simp only [Nat.reduceAdd, Act.put, List.setIfInBounds_toArray, List.set_cons_succ, List.set_cons_zero]
        refine det_w (.int .i64 (cf ex ey)) rfl (fun L w hV hi hd hn => by
          refine wp_call_fn _ _ _ rfl F caps #[Tsk.val ex, Tsk.val ey] rfl (by simp only [List.map_toArray, List.map_cons, List.map_nil]; rfl) hF ?_
          refine (Hcmp.out ex ey w hV.1).mono ?_
          rintro e w' ⟨rfl, he⟩
          exact ⟨_, rfl, rfl, hV.1.tr (Srt.of_ext he), hV.2.ext he⟩) ?_
        simp only [Nat.reduceAdd, Act.put, List.setIfInBounds_toArray, List.set_cons_succ, List.set_cons_zero]
        repeat (refine det_p _ rfl rfl (fun w => by go_simp; with_reducible rfl) ?_; simp only [Nat.reduceAdd, Act.put, List.setIfInBounds_toArray, List.set_cons_succ, List.set_cons_zero])
        intro w1 hV
        have hS1 := hV.1
        have HB1 := Lib.hid hV.2
        clear hV
        clear hS HB
        have hS := hS1
        have HB := HB1
        clear hS1 HB1
        go_wp2
        go_roundw
        case rel => exact ⟨(i + j) / 2 + 1, j, by omega, by omega, hjb, congrArg (Value.int .i64) (by omega), rfl, HB.out, hS, by rw [HR.out, bs_go1 hlt (by rw [HP.out]; simp [hlt2])]⟩
        case measure => simp [intOf]; omega
    · obtain ⟨s, rfl⟩ : ∃ s, s = i := ⟨i, rfl⟩
      have HI := Lib.hid (show (if (a + b) / 2 < m then bs (mergeP (ltc cf) l ((a + b) / 2 + m)) ((a + b) / 2 + m - b) ((a + b) / 2) else bs (mergeP (ltc cf) l ((a + b) / 2 + m)) a m) = s by rw [if_pos hM, HR.out, bs_end hlt])
      clear HR
      by_cases c1 : s < m ∧ m < (a + b) / 2 + m - s
      · by_cases c2 : a < s ∧ s < (a + b) / 2
        · by_cases c3 : (a + b) / 2 < (a + b) / 2 + m - s ∧ (a + b) / 2 + m - s < b
          · go_wp2_with (first | (go_at_call 177; refine (rotate_any g c s m (((a + b) / 2) + m - s) _ _ _ _ l len rest _ (by omega) (by omega) (by omega) HL.out HB.out (by omega) (by omega) (by omega) (by omega)).mono ?_; rintro e w2 ⟨rfl, hb2, hs2⟩; have HB2 := Lib.hid hb2; have hS2 := hS.tr hs2; clear hb2) | (go_at_call 142; refine (ih g c a s ((a + b) / 2) _ _ _ F caps cf (rot s m (((a + b) / 2) + m - s) l) len rest _ hF (Hcmp.out.later hS2) (by omega) (by omega) (by omega) (Lib.hid ((rot_len _ _ _ _).trans HL.out)).out HB2.out (by omega) (by omega) (by omega) (by omega) (by omega)).mono ?_; rintro e w3 ⟨rfl, hb3, hs3⟩; have HB3 := Lib.hid hb3; have hS3 := hS2.tr hs3; clear hb3) | (go_at_call 142; refine (ih g c ((a + b) / 2) (((a + b) / 2) + m - s) b _ _ _ F caps cf (symM (ltc cf) f a s ((a + b) / 2) (rot s m (((a + b) / 2) + m - s) l)) len rest _ hF (Hcmp.out.later hS3) (by omega) (by omega) (by omega) (Lib.hid ((symM_len _ _ _ _ _ _).trans (Lib.hid ((rot_len _ _ _ _).trans HL.out)).out)).out HB3.out (by omega) (by omega) (by omega) (by omega) (by omega)).mono ?_; rintro e w4 ⟨rfl, hb4, hs4⟩; have HB4 := Lib.hid hb4; have hS4 := hS3.tr hs4; clear hb4))
            all_goals
              go_end0
              refine ⟨rfl, ?_, hS4⟩
              rw [symM_C h1 h2 HI.out, if_pos c1]
              dsimp only
              rw [if_pos c2, if_pos c3]
              exact HB4.out
          · go_wp2_with (first | (go_at_call 177; refine (rotate_any g c s m (((a + b) / 2) + m - s) _ _ _ _ l len rest _ (by omega) (by omega) (by omega) HL.out HB.out (by omega) (by omega) (by omega) (by omega)).mono ?_; rintro e w2 ⟨rfl, hb2, hs2⟩; have HB2 := Lib.hid hb2; have hS2 := hS.tr hs2; clear hb2) | (go_at_call 142; refine (ih g c a s ((a + b) / 2) _ _ _ F caps cf (rot s m (((a + b) / 2) + m - s) l) len rest _ hF (Hcmp.out.later hS2) (by omega) (by omega) (by omega) (Lib.hid ((rot_len _ _ _ _).trans HL.out)).out HB2.out (by omega) (by omega) (by omega) (by omega) (by omega)).mono ?_; rintro e w3 ⟨rfl, hb3, hs3⟩; have HB3 := Lib.hid hb3; have hS3 := hS2.tr hs3; clear hb3))
            all_goals
              go_end0
              refine ⟨rfl, ?_, hS3⟩
              rw [symM_C h1 h2 HI.out, if_pos c1]
              dsimp only
              rw [if_pos c2, if_neg c3]
              exact HB3.out
        · by_cases c3 : (a + b) / 2 < (a + b) / 2 + m - s ∧ (a + b) / 2 + m - s < b
          · go_wp2_with (first | (go_at_call 177; refine (rotate_any g c s m (((a + b) / 2) + m - s) _ _ _ _ l len rest _ (by omega) (by omega) (by omega) HL.out HB.out (by omega) (by omega) (by omega) (by omega)).mono ?_; rintro e w2 ⟨rfl, hb2, hs2⟩; have HB2 := Lib.hid hb2; have hS2 := hS.tr hs2; clear hb2) | (go_at_call 142; refine (ih g c ((a + b) / 2) (((a + b) / 2) + m - s) b _ _ _ F caps cf (rot s m (((a + b) / 2) + m - s) l) len rest _ hF (Hcmp.out.later hS2) (by omega) (by omega) (by omega) (Lib.hid ((rot_len _ _ _ _).trans HL.out)).out HB2.out (by omega) (by omega) (by omega) (by omega) (by omega)).mono ?_; rintro e w4 ⟨rfl, hb4, hs4⟩; have HB4 := Lib.hid hb4; have hS4 := hS2.tr hs4; clear hb4))
            all_goals
              go_end0
              refine ⟨rfl, ?_, hS4⟩
              rw [symM_C h1 h2 HI.out, if_pos c1]
              dsimp only
              rw [if_neg c2, if_pos c3]
              exact HB4.out
          · go_wp2_with (first | (go_at_call 177; refine (rotate_any g c s m (((a + b) / 2) + m - s) _ _ _ _ l len rest _ (by omega) (by omega) (by omega) HL.out HB.out (by omega) (by omega) (by omega) (by omega)).mono ?_; rintro e w2 ⟨rfl, hb2, hs2⟩; have HB2 := Lib.hid hb2; have hS2 := hS.tr hs2; clear hb2))
            all_goals
              go_end0
              refine ⟨rfl, ?_, hS2⟩
              rw [symM_C h1 h2 HI.out, if_pos c1]
              dsimp only
              rw [if_neg c2, if_neg c3]
              exact HB2.out
      · by_cases c2 : a < s ∧ s < (a + b) / 2
        · by_cases c3 : (a + b) / 2 < (a + b) / 2 + m - s ∧ (a + b) / 2 + m - s < b
          · go_wp2_with (first | (go_at_call 142; refine (ih g c a s ((a + b) / 2) _ _ _ F caps cf l len rest _ hF (Hcmp.out.later hS) (by omega) (by omega) (by omega) HL.out HB.out (by omega) (by omega) (by omega) (by omega) (by omega)).mono ?_; rintro e w3 ⟨rfl, hb3, hs3⟩; have HB3 := Lib.hid hb3; have hS3 := hS.tr hs3; clear hb3) | (go_at_call 142; refine (ih g c ((a + b) / 2) (((a + b) / 2) + m - s) b _ _ _ F caps cf (symM (ltc cf) f a s ((a + b) / 2) l) len rest _ hF (Hcmp.out.later hS3) (by omega) (by omega) (by omega) (Lib.hid ((symM_len _ _ _ _ _ _).trans HL.out)).out HB3.out (by omega) (by omega) (by omega) (by omega) (by omega)).mono ?_; rintro e w4 ⟨rfl, hb4, hs4⟩; have HB4 := Lib.hid hb4; have hS4 := hS3.tr hs4; clear hb4))
            all_goals
              go_end0
              refine ⟨rfl, ?_, hS4⟩
              rw [symM_C h1 h2 HI.out, if_neg c1]
              dsimp only
              rw [if_pos c2, if_pos c3]
              exact HB4.out
          · go_wp2_with (first | (go_at_call 142; refine (ih g c a s ((a + b) / 2) _ _ _ F caps cf l len rest _ hF (Hcmp.out.later hS) (by omega) (by omega) (by omega) HL.out HB.out (by omega) (by omega) (by omega) (by omega) (by omega)).mono ?_; rintro e w3 ⟨rfl, hb3, hs3⟩; have HB3 := Lib.hid hb3; have hS3 := hS.tr hs3; clear hb3))
            all_goals
              go_end0
              refine ⟨rfl, ?_, hS3⟩
              rw [symM_C h1 h2 HI.out, if_neg c1]
              dsimp only
              rw [if_pos c2, if_neg c3]
              exact HB3.out
        · by_cases c3 : (a + b) / 2 < (a + b) / 2 + m - s ∧ (a + b) / 2 + m - s < b
          · go_wp2_with (first | (go_at_call 142; refine (ih g c ((a + b) / 2) (((a + b) / 2) + m - s) b _ _ _ F caps cf l len rest _ hF (Hcmp.out.later hS) (by omega) (by omega) (by omega) HL.out HB.out (by omega) (by omega) (by omega) (by omega) (by omega)).mono ?_; rintro e w4 ⟨rfl, hb4, hs4⟩; have HB4 := Lib.hid hb4; have hS4 := hS.tr hs4; clear hb4))
            all_goals
              go_end0
              refine ⟨rfl, ?_, hS4⟩
              rw [symM_C h1 h2 HI.out, if_neg c1]
              dsimp only
              rw [if_neg c2, if_pos c3]
              exact HB4.out
          · go_wp2
            all_goals
              go_end0
              refine ⟨rfl, ?_, hS⟩
              rw [symM_C h1 h2 HI.out, if_neg c1]
              dsimp only
              rw [if_neg c2, if_neg c3]
              exact HB.out

set_option maxRecDepth 100000 in
set_option maxHeartbeats 4000000 in
theorem symMerge_C2 (f : Nat) (ih : ∀ (g c a m b : Nat) (va vm vb : Int) (F : Nat) (caps : Array Value) (cf : Tsk → Tsk → Int) (l : List Tsk) (len : Nat) (rest : List Value) (w : World)
    (hF : ∀ args w, Sem.run Tryz.prog (callFunc F args) w = .ok (.enter F args) w) (hc : CmpOK F caps cf g w)
    (hva : va = (a : Int)) (hvm : vm = (m : Int)) (hvb : vb = (b : Int)) (hlen : l.length = len) (hB : RB w g l rest) (ham : a < m) (hmb : m < b) (hb : b ≤ len) (hl : len ≤ 1000000) (hf : b - a ≤ f), Calls Tryz.prog 142 #[.slice (some ⟨g, 0, none⟩) len c, .int .i64 va, .int .i64 vm, .int .i64 vb, .func (.func F) #[] caps] w
      fun e w' => e = .returned (.tuple #[]) ∧ RB w' g (symM (ltc cf) f a m b l) rest ∧ Srt g w w') (g c a m b : Nat) (va vm vb : Int) (F : Nat) (caps : Array Value) (cf : Tsk → Tsk → Int) (l : List Tsk) (len : Nat) (rest : List Value) (w : World)
    (hF : ∀ args w, Sem.run Tryz.prog (callFunc F args) w = .ok (.enter F args) w) (hc : CmpOK F caps cf g w)
    (hva : va = (a : Int)) (hvm : vm = (m : Int)) (hvb : vb = (b : Int)) (hlen : l.length = len) (hB : RB w g l rest) (ham : a < m) (hmb : m < b) (hb : b ≤ len) (hl : len ≤ 1000000) (hf : b - a ≤ f + 1) (h1 : ¬ m - a = 1) (h2 : ¬ b - m = 1) (hM : ¬ (a + b) / 2 < m) :
    Calls Tryz.prog 142 #[.slice (some ⟨g, 0, none⟩) len c, .int .i64 va, .int .i64 vm, .int .i64 vb, .func (.func F) #[] caps] w
      fun e w' => e = .returned (.tuple #[]) ∧ RB w' g (symM (ltc cf) (f + 1) a m b l) rest ∧ Srt g w w' := by
  subst hva hvm hvb
  have Hcmp := Lib.hid hc
  have HL := Lib.hid hlen
  have HB0 := Lib.hid hB
  clear hlen hB hc
  have hd1 : ((m : Int) - (a : Int) == 1) = false := by simp; omega
  have hd2 : ((b : Int) - (m : Int) == 1) = false := by simp; omega
  go_enter Tryz.func142, Tryz.ntmps142
  go_wp2_with fail
  go_loopw [20, 21] (fun vi vj wr => ∃ (i j : Nat), a ≤ i ∧ i ≤ j ∧ j ≤ m ∧ vi = .int .i64 i ∧ vj = .int .i64 j ∧ RB wr g l rest ∧ Srt g w wr ∧ bs (mergeP (ltc cf) l ((a + b) / 2 + m)) a m = bs (mergeP (ltc cf) l ((a + b) / 2 + m)) i j) (fun vi vj _ => (intOf vj).toNat - (intOf vi).toNat)
  case atStart => exact ⟨a, m, Nat.le_refl _, by omega, Nat.le_refl _, congrArg (Value.int .i64) (by omega), congrArg (Value.int .i64) (by omega), HB0.out, Srt.rfl', rfl⟩
  case round =>
    obtain ⟨i, j, hmi, hij, hjb, rfl, rfl, hB, hS, hR⟩ := hrel
    have HC := HL
    have HR := Lib.hid hR
    have HB := Lib.hid hB
    clear hR hB
    by_cases hlt : i < j
    · go_wp2_with fail
      obtain ⟨ex, hex⟩ : ∃ e, gt l (((a + b) / 2 + m) - 1 - (i + j) / 2) = e := ⟨_, rfl⟩
      obtain ⟨ey, hey⟩ : ∃ e, gt l ((i + j) / 2) = e := ⟨_, rfl⟩
      have HX := Lib.hid hex
      have HY := Lib.hid hey
      clear hex hey
      have hp : mergeP (ltc cf) l ((a + b) / 2 + m) ((i + j) / 2) = !decide (cf ex ey < 0) := by simp only [mergeP, ltc]; rw [HX.out, HY.out]
      have HP := Lib.hid hp
      clear hp
      by_cases hlt2 : cf ex ey < 0
      · have hd3 : decide (cf ex ey < 0) = true := by simpa using hlt2
        refine wp_region_dets (by kernel_rfl) [] (fun _ w' => Srt g w w' ∧ RB w' g l rest) (by kernel_rfl) rfl ⟨hS.dr, HB.out⟩ ?_
        repeat (refine det_p _ rfl rfl (fun w => by go_simp; with_reducible rfl) ?_; simp only [Nat.reduceAdd, Act.put, List.setIfInBounds_toArray, List.set_cons_succ, List.set_cons_zero])
        refine det_p _ rfl rfl (fun w => run_index_at 23 _ _ rfl 36 7 g 0 len c (((a + b) / 2 + m) - 1 - (i + j) / 2) _ rfl rfl (by first | rfl | omega | exact wrap_in _ (by omega) (by omega) | (rw [wrap_in _ (by omega) (by omega)]; omega)) (by omega) Tryz.underlying23 tsk_size) ?_
        simp only [Nat.reduceAdd, Act.put, List.setIfInBounds_toArray, List.set_cons_succ, List.set_cons_zero]
        refine det_r (.agg (Tsk.row ex).toArray) rfl rfl (fun L w hV hn => by
          have hat := hV.2.at_ (i := ((a + b) / 2 + m) - 1 - (i + j) / 2) (by rw [HC.out]; omega)
          rw [HX.out] at hat
          exact run_load_cells 36 _ rfl ⟨g, (((a + b) / 2 + m) - 1 - (i + j) / 2) * 7, none⟩ (Tsk.row ex) (by show Value.pointer _ = _; rw [Nat.zero_add]) _ hat Tryz.underlying36 rfl tsk_size) ?_
        simp only [Nat.reduceAdd, Act.put, List.setIfInBounds_toArray, List.set_cons_succ, List.set_cons_zero]
        repeat (refine det_p _ rfl rfl (fun w => by go_simp; with_reducible rfl) ?_; simp only [Nat.reduceAdd, Act.put, List.setIfInBounds_toArray, List.set_cons_succ, List.set_cons_zero])
        refine det_p _ rfl rfl (fun w => run_index_at 23 _ _ rfl 36 7 g 0 len c ((i + j) / 2) _ rfl rfl (by first | rfl | omega | exact wrap_in _ (by omega) (by omega) | (rw [wrap_in _ (by omega) (by omega)]; omega)) (by omega) Tryz.underlying23 tsk_size) ?_
        simp only [Nat.reduceAdd, Act.put, List.setIfInBounds_toArray, List.set_cons_succ, List.set_cons_zero]
        refine det_r (.agg (Tsk.row ey).toArray) rfl rfl (fun L w hV hn => by
          have hat := hV.2.at_ (i := (i + j) / 2) (by rw [HC.out]; omega)
          rw [HY.out] at hat
          exact run_load_cells 36 _ rfl ⟨g, ((i + j) / 2) * 7, none⟩ (Tsk.row ey) (by show Value.pointer _ = _; rw [Nat.zero_add]) _ hat Tryz.underlying36 rfl tsk_size) ?_
        simp only [Nat.reduceAdd, Act.put, List.setIfInBounds_toArray, List.set_cons_succ, List.set_cons_zero]
        refine det_w (.int .i64 (cf ex ey)) rfl (fun L w hV hi hd hn => by
          refine wp_call_fn _ _ _ rfl F caps #[Tsk.val ex, Tsk.val ey] rfl (by simp only [List.map_toArray, List.map_cons, List.map_nil]; rfl) hF ?_
          refine (Hcmp.out ex ey w hV.1).mono ?_
          rintro e w' ⟨rfl, he⟩
          exact ⟨_, rfl, rfl, hV.1.tr (Srt.of_ext he), hV.2.ext he⟩) ?_
        simp only [Nat.reduceAdd, Act.put, List.setIfInBounds_toArray, List.set_cons_succ, List.set_cons_zero]
        repeat (refine det_p _ rfl rfl (fun w => by go_simp; with_reducible rfl) ?_; simp only [Nat.reduceAdd, Act.put, List.setIfInBounds_toArray, List.set_cons_succ, List.set_cons_zero])
        intro w1 hV
        have hS1 := hV.1
        have HB1 := Lib.hid hV.2
        clear hV
        clear hS HB
        have hS := hS1
        have HB := HB1
        clear hS1 HB1
        go_wp2
        go_roundw
        case rel => exact ⟨i, (i + j) / 2, by omega, by omega, by omega, rfl, congrArg (Value.int .i64) (by omega), HB.out, hS, by rw [HR.out, bs_go0 hlt (by rw [HP.out]; simp [hlt2])]⟩
        case measure => simp [intOf]; omega
      · have hd3 : decide (cf ex ey < 0) = false := by simpa using hlt2
        refine wp_region_dets (by kernel_rfl) [] (fun _ w' => Srt g w w' ∧ RB w' g l rest) (by kernel_rfl) rfl ⟨hS.dr, HB.out⟩ ?_
        repeat (refine det_p _ rfl rfl (fun w => by go_simp; with_reducible rfl) ?_; simp only [Nat.reduceAdd, Act.put, List.setIfInBounds_toArray, List.set_cons_succ, List.set_cons_zero])
        refine det_p _ rfl rfl (fun w => run_index_at 23 _ _ rfl 36 7 g 0 len c (((a + b) / 2 + m) - 1 - (i + j) / 2) _ rfl rfl (by first | rfl | omega | exact wrap_in _ (by omega) (by omega) | (rw [wrap_in _ (by omega) (by omega)]; omega)) (by omega) Tryz.underlying23 tsk_size) ?_
        simp only [Nat.reduceAdd, Act.put, List.setIfInBounds_toArray, List.set_cons_succ, List.set_cons_zero]
        refine det_r (.agg (Tsk.row ex).toArray) rfl rfl (fun L w hV hn => by
          have hat := hV.2.at_ (i := ((a + b) / 2 + m) - 1 - (i + j) / 2) (by rw [HC.out]; omega)
          rw [HX.out] at hat
          exact run_load_cells 36 _ rfl ⟨g, (((a + b) / 2 + m) - 1 - (i + j) / 2) * 7, none⟩ (Tsk.row ex) (by show Value.pointer _ = _; rw [Nat.zero_add]) _ hat Tryz.underlying36 rfl tsk_size) ?_
        simp only [Nat.reduceAdd, Act.put, List.setIfInBounds_toArray, List.set_cons_succ, List.set_cons_zero]
        repeat (refine det_p _ rfl rfl (fun w => by go_simp; with_reducible rfl) ?_; simp only [Nat.reduceAdd, Act.put, List.setIfInBounds_toArray, List.set_cons_succ, List.set_cons_zero])
        refine det_p _ rfl rfl (fun w => run_index_at 23 _ _ rfl 36 7 g 0 len c ((i + j) / 2) _ rfl rfl (by first | rfl | omega | exact wrap_in _ (by omega) (by omega) | (rw [wrap_in _ (by omega) (by omega)]; omega)) (by omega) Tryz.underlying23 tsk_size) ?_
        simp only [Nat.reduceAdd, Act.put, List.setIfInBounds_toArray, List.set_cons_succ, List.set_cons_zero]
        refine det_r (.agg (Tsk.row ey).toArray) rfl rfl (fun L w hV hn => by
          have hat := hV.2.at_ (i := (i + j) / 2) (by rw [HC.out]; omega)
          rw [HY.out] at hat
          exact run_load_cells 36 _ rfl ⟨g, ((i + j) / 2) * 7, none⟩ (Tsk.row ey) (by show Value.pointer _ = _; rw [Nat.zero_add]) _ hat Tryz.underlying36 rfl tsk_size) ?_
        simp only [Nat.reduceAdd, Act.put, List.setIfInBounds_toArray, List.set_cons_succ, List.set_cons_zero]
        refine det_w (.int .i64 (cf ex ey)) rfl (fun L w hV hi hd hn => by
          refine wp_call_fn _ _ _ rfl F caps #[Tsk.val ex, Tsk.val ey] rfl (by simp only [List.map_toArray, List.map_cons, List.map_nil]; rfl) hF ?_
          refine (Hcmp.out ex ey w hV.1).mono ?_
          rintro e w' ⟨rfl, he⟩
          exact ⟨_, rfl, rfl, hV.1.tr (Srt.of_ext he), hV.2.ext he⟩) ?_
        simp only [Nat.reduceAdd, Act.put, List.setIfInBounds_toArray, List.set_cons_succ, List.set_cons_zero]
        repeat (refine det_p _ rfl rfl (fun w => by go_simp; with_reducible rfl) ?_; simp only [Nat.reduceAdd, Act.put, List.setIfInBounds_toArray, List.set_cons_succ, List.set_cons_zero])
        intro w1 hV
        have hS1 := hV.1
        have HB1 := Lib.hid hV.2
        clear hV
        clear hS HB
        have hS := hS1
        have HB := HB1
        clear hS1 HB1
        go_wp2
        go_roundw
        case rel => exact ⟨(i + j) / 2 + 1, j, by omega, by omega, hjb, congrArg (Value.int .i64) (by omega), rfl, HB.out, hS, by rw [HR.out, bs_go1 hlt (by rw [HP.out]; simp [hlt2])]⟩
        case measure => simp [intOf]; omega
    · obtain ⟨s, rfl⟩ : ∃ s, s = i := ⟨i, rfl⟩
      have HI := Lib.hid (show (if (a + b) / 2 < m then bs (mergeP (ltc cf) l ((a + b) / 2 + m)) ((a + b) / 2 + m - b) ((a + b) / 2) else bs (mergeP (ltc cf) l ((a + b) / 2 + m)) a m) = s by rw [if_neg hM, HR.out, bs_end hlt])
      clear HR
      by_cases c1 : s < m ∧ m < (a + b) / 2 + m - s
      · by_cases c2 : a < s ∧ s < (a + b) / 2
        · by_cases c3 : (a + b) / 2 < (a + b) / 2 + m - s ∧ (a + b) / 2 + m - s < b
          · go_wp2_with (first | (go_at_call 177; refine (rotate_any g c s m (((a + b) / 2) + m - s) _ _ _ _ l len rest _ (by omega) (by omega) (by omega) HL.out HB.out (by omega) (by omega) (by omega) (by omega)).mono ?_; rintro e w2 ⟨rfl, hb2, hs2⟩; have HB2 := Lib.hid hb2; have hS2 := hS.tr hs2; clear hb2) | (go_at_call 142; refine (ih g c a s ((a + b) / 2) _ _ _ F caps cf (rot s m (((a + b) / 2) + m - s) l) len rest _ hF (Hcmp.out.later hS2) (by omega) (by omega) (by omega) (Lib.hid ((rot_len _ _ _ _).trans HL.out)).out HB2.out (by omega) (by omega) (by omega) (by omega) (by omega)).mono ?_; rintro e w3 ⟨rfl, hb3, hs3⟩; have HB3 := Lib.hid hb3; have hS3 := hS2.tr hs3; clear hb3) | (go_at_call 142; refine (ih g c ((a + b) / 2) (((a + b) / 2) + m - s) b _ _ _ F caps cf (symM (ltc cf) f a s ((a + b) / 2) (rot s m (((a + b) / 2) + m - s) l)) len rest _ hF (Hcmp.out.later hS3) (by omega) (by omega) (by omega) (Lib.hid ((symM_len _ _ _ _ _ _).trans (Lib.hid ((rot_len _ _ _ _).trans HL.out)).out)).out HB3.out (by omega) (by omega) (by omega) (by omega) (by omega)).mono ?_; rintro e w4 ⟨rfl, hb4, hs4⟩; have HB4 := Lib.hid hb4; have hS4 := hS3.tr hs4; clear hb4))
            all_goals
              go_end0
              refine ⟨rfl, ?_, hS4⟩
              rw [symM_C h1 h2 HI.out, if_pos c1]
              dsimp only
              rw [if_pos c2, if_pos c3]
              exact HB4.out
          · go_wp2_with (first | (go_at_call 177; refine (rotate_any g c s m (((a + b) / 2) + m - s) _ _ _ _ l len rest _ (by omega) (by omega) (by omega) HL.out HB.out (by omega) (by omega) (by omega) (by omega)).mono ?_; rintro e w2 ⟨rfl, hb2, hs2⟩; have HB2 := Lib.hid hb2; have hS2 := hS.tr hs2; clear hb2) | (go_at_call 142; refine (ih g c a s ((a + b) / 2) _ _ _ F caps cf (rot s m (((a + b) / 2) + m - s) l) len rest _ hF (Hcmp.out.later hS2) (by omega) (by omega) (by omega) (Lib.hid ((rot_len _ _ _ _).trans HL.out)).out HB2.out (by omega) (by omega) (by omega) (by omega) (by omega)).mono ?_; rintro e w3 ⟨rfl, hb3, hs3⟩; have HB3 := Lib.hid hb3; have hS3 := hS2.tr hs3; clear hb3))
            all_goals
              go_end0
              refine ⟨rfl, ?_, hS3⟩
              rw [symM_C h1 h2 HI.out, if_pos c1]
              dsimp only
              rw [if_pos c2, if_neg c3]
              exact HB3.out
        · by_cases c3 : (a + b) / 2 < (a + b) / 2 + m - s ∧ (a + b) / 2 + m - s < b
          · go_wp2_with (first | (go_at_call 177; refine (rotate_any g c s m (((a + b) / 2) + m - s) _ _ _ _ l len rest _ (by omega) (by omega) (by omega) HL.out HB.out (by omega) (by omega) (by omega) (by omega)).mono ?_; rintro e w2 ⟨rfl, hb2, hs2⟩; have HB2 := Lib.hid hb2; have hS2 := hS.tr hs2; clear hb2) | (go_at_call 142; refine (ih g c ((a + b) / 2) (((a + b) / 2) + m - s) b _ _ _ F caps cf (rot s m (((a + b) / 2) + m - s) l) len rest _ hF (Hcmp.out.later hS2) (by omega) (by omega) (by omega) (Lib.hid ((rot_len _ _ _ _).trans HL.out)).out HB2.out (by omega) (by omega) (by omega) (by omega) (by omega)).mono ?_; rintro e w4 ⟨rfl, hb4, hs4⟩; have HB4 := Lib.hid hb4; have hS4 := hS2.tr hs4; clear hb4))
            all_goals
              go_end0
              refine ⟨rfl, ?_, hS4⟩
              rw [symM_C h1 h2 HI.out, if_pos c1]
              dsimp only
              rw [if_neg c2, if_pos c3]
              exact HB4.out
          · go_wp2_with (first | (go_at_call 177; refine (rotate_any g c s m (((a + b) / 2) + m - s) _ _ _ _ l len rest _ (by omega) (by omega) (by omega) HL.out HB.out (by omega) (by omega) (by omega) (by omega)).mono ?_; rintro e w2 ⟨rfl, hb2, hs2⟩; have HB2 := Lib.hid hb2; have hS2 := hS.tr hs2; clear hb2))
            all_goals
              go_end0
              refine ⟨rfl, ?_, hS2⟩
              rw [symM_C h1 h2 HI.out, if_pos c1]
              dsimp only
              rw [if_neg c2, if_neg c3]
              exact HB2.out
      · by_cases c2 : a < s ∧ s < (a + b) / 2
        · by_cases c3 : (a + b) / 2 < (a + b) / 2 + m - s ∧ (a + b) / 2 + m - s < b
          · go_wp2_with (first | (go_at_call 142; refine (ih g c a s ((a + b) / 2) _ _ _ F caps cf l len rest _ hF (Hcmp.out.later hS) (by omega) (by omega) (by omega) HL.out HB.out (by omega) (by omega) (by omega) (by omega) (by omega)).mono ?_; rintro e w3 ⟨rfl, hb3, hs3⟩; have HB3 := Lib.hid hb3; have hS3 := hS.tr hs3; clear hb3) | (go_at_call 142; refine (ih g c ((a + b) / 2) (((a + b) / 2) + m - s) b _ _ _ F caps cf (symM (ltc cf) f a s ((a + b) / 2) l) len rest _ hF (Hcmp.out.later hS3) (by omega) (by omega) (by omega) (Lib.hid ((symM_len _ _ _ _ _ _).trans HL.out)).out HB3.out (by omega) (by omega) (by omega) (by omega) (by omega)).mono ?_; rintro e w4 ⟨rfl, hb4, hs4⟩; have HB4 := Lib.hid hb4; have hS4 := hS3.tr hs4; clear hb4))
            all_goals
              go_end0
              refine ⟨rfl, ?_, hS4⟩
              rw [symM_C h1 h2 HI.out, if_neg c1]
              dsimp only
              rw [if_pos c2, if_pos c3]
              exact HB4.out
          · go_wp2_with (first | (go_at_call 142; refine (ih g c a s ((a + b) / 2) _ _ _ F caps cf l len rest _ hF (Hcmp.out.later hS) (by omega) (by omega) (by omega) HL.out HB.out (by omega) (by omega) (by omega) (by omega) (by omega)).mono ?_; rintro e w3 ⟨rfl, hb3, hs3⟩; have HB3 := Lib.hid hb3; have hS3 := hS.tr hs3; clear hb3))
            all_goals
              go_end0
              refine ⟨rfl, ?_, hS3⟩
              rw [symM_C h1 h2 HI.out, if_neg c1]
              dsimp only
              rw [if_pos c2, if_neg c3]
              exact HB3.out
        · by_cases c3 : (a + b) / 2 < (a + b) / 2 + m - s ∧ (a + b) / 2 + m - s < b
          · go_wp2_with (first | (go_at_call 142; refine (ih g c ((a + b) / 2) (((a + b) / 2) + m - s) b _ _ _ F caps cf l len rest _ hF (Hcmp.out.later hS) (by omega) (by omega) (by omega) HL.out HB.out (by omega) (by omega) (by omega) (by omega) (by omega)).mono ?_; rintro e w4 ⟨rfl, hb4, hs4⟩; have HB4 := Lib.hid hb4; have hS4 := hS.tr hs4; clear hb4))
            all_goals
              go_end0
              refine ⟨rfl, ?_, hS4⟩
              rw [symM_C h1 h2 HI.out, if_neg c1]
              dsimp only
              rw [if_neg c2, if_pos c3]
              exact HB4.out
          · go_wp2
            all_goals
              go_end0
              refine ⟨rfl, ?_, hS⟩
              rw [symM_C h1 h2 HI.out, if_neg c1]
              dsimp only
              rw [if_neg c2, if_neg c3]
              exact HB.out

theorem symMerge_any : ∀ (f : Nat) (g c a m b : Nat) (va vm vb : Int) (F : Nat) (caps : Array Value) (cf : Tsk → Tsk → Int) (l : List Tsk) (len : Nat) (rest : List Value) (w : World)
    (hF : ∀ args w, Sem.run Tryz.prog (callFunc F args) w = .ok (.enter F args) w) (hc : CmpOK F caps cf g w)
    (hva : va = (a : Int)) (hvm : vm = (m : Int)) (hvb : vb = (b : Int)) (hlen : l.length = len) (hB : RB w g l rest) (ham : a < m) (hmb : m < b) (hb : b ≤ len) (hl : len ≤ 1000000) (hf : b - a ≤ f), Calls Tryz.prog 142 #[.slice (some ⟨g, 0, none⟩) len c, .int .i64 va, .int .i64 vm, .int .i64 vb, .func (.func F) #[] caps] w
      fun e w' => e = .returned (.tuple #[]) ∧ RB w' g (symM (ltc cf) f a m b l) rest ∧ Srt g w w'
  | 0 => fun g c a m b _ _ _ F caps cf l len rest w _ _ _ _ _ _ _ ham hmb _ _ hf => by omega
  | f + 1 => fun g c a m b va vm vb F caps cf l len rest w hF hc hva hvm hvb hlen hB ham hmb hb hl hf => by
    by_cases h1 : m - a = 1
    · have := symMerge_A g c a m b va vm vb F caps cf l len rest w hF hc hva hvm hvb hlen hB ham hmb hb hl h1
      rw [symM, if_pos h1]
      exact this
    · by_cases h2 : b - m = 1
      · have := symMerge_B g c a m b va vm vb F caps cf l len rest w hF hc hva hvm hvb hlen hB ham hmb hb hl h1 h2
        rw [symM, if_neg h1, if_pos h2]
        exact this
      · by_cases hM : (a + b) / 2 < m
        · exact symMerge_C1 f (symMerge_any f) g c a m b va vm vb F caps cf l len rest w hF hc hva hvm hvb hlen hB ham hmb hb hl hf h1 h2 hM
        · exact symMerge_C2 f (symMerge_any f) g c a m b va vm vb F caps cf l len rest w hF hc hva hvm hvb hlen hB ham hmb hb hl hf h1 h2 hM
end Go.Proofs.YthhmbijblpjfpaaGreat
