/- The walks of the stable sort: insertion. -/
import Derived.Test.YthhmbijblpjfpaaGreatSort1
namespace Go.Proofs.YthhmbijblpjfpaaGreat
open Go.RowKit

abbrev ltc (cf : Tsk → Tsk → Int) (x y : Tsk) : Bool := decide (cf x y < 0)
theorem insIn_len (lt : Tsk → Tsk → Bool) (a : Nat) : ∀ (j : Nat) (l : List Tsk), (insIn lt a j l).length = l.length
  | 0, l => rfl
  | j + 1, l => by
    unfold insIn
    split
    · rw [insIn_len lt a j, swp_len]
    · rfl
theorem insIn_stop {lt : Tsk → Tsk → Bool} {a j : Nat} {l : List Tsk} (h : ¬ (a < j ∧ lt (gt l j) (gt l (j - 1)) = true)) : insIn lt a j l = l := by
  cases j with
  | zero => rfl
  | succ j => unfold insIn; exact if_neg h
theorem insIn_go {lt : Tsk → Tsk → Bool} {a j : Nat} {l : List Tsk} (h1 : a < j) (h2 : lt (gt l j) (gt l (j - 1)) = true) : insIn lt a j l = insIn lt a (j - 1) (swp l j (j - 1)) := by
  cases j with
  | zero => omega
  | succ j => conv => lhs; unfold insIn
              exact if_pos ⟨h1, h2⟩
theorem insOut_go {lt : Tsk → Tsk → Bool} {a b i : Nat} {l : List Tsk} (h : i < b) : insOut lt a b i l = insOut lt a b (i + 1) (insIn lt a i l) := by rw [insOut, if_pos h]
theorem insOut_end {lt : Tsk → Tsk → Bool} {a b i : Nat} {l : List Tsk} (h : ¬ i < b) : insOut lt a b i l = l := by rw [insOut, if_neg h]
/-- what is asked of cmp while block g is being sorted -/
abbrev CmpOK (F : Nat) (caps : Array Value) (cf : Tsk → Tsk → Int) (g : Nat) (w : World) : Prop :=
  ∀ x y w', Srt g w w' → Calls Tryz.prog F (#[Tsk.val x, Tsk.val y] ++ caps) w' fun e w'' => e = .returned (.int .i64 (cf x y)) ∧ Ext w' w''
theorem CmpOK.later {F : Nat} {caps : Array Value} {cf : Tsk → Tsk → Int} {g : Nat} {w w1 : World} (h : CmpOK F caps cf g w) (hs : Srt g w w1) : CmpOK F caps cf g w1 :=
  fun x y w' h' => h x y w' (hs.tr h')

set_option maxRecDepth 100000 in
set_option maxHeartbeats 1000000 in
theorem insertion_any (g c a b : Nat) (va vb : Int) (F : Nat) (caps : Array Value) (cf : Tsk → Tsk → Int) (l : List Tsk) (len : Nat) (rest : List Value) (w : World)
    (hF : ∀ args w, Sem.run Tryz.prog (callFunc F args) w = .ok (.enter F args) w) (hc : CmpOK F caps cf g w)
    (hva : va = (a : Int)) (hvb : vb = (b : Int)) (hlen : l.length = len) (hB : RB w g l rest) (hb : b ≤ len) (hl : len ≤ 1000000) (ha : a ≤ len) :
    Calls Tryz.prog 141 #[.slice (some ⟨g, 0, none⟩) len c, .int .i64 va, .int .i64 vb, .func (.func F) #[] caps] w
      fun e w' => e = .returned (.tuple #[]) ∧ RB w' g (insSort (ltc cf) a b l) rest ∧ Srt g w w' := by
  subst hva hvb
  have Hcmp := Lib.hid hc
  have HL := Lib.hid hlen
  have HB0 := Lib.hid hB
  clear hlen hB hc
  go_enter Tryz.func141, Tryz.ntmps141
  go_wp2_with fail
  go_loopw [8] (fun vi wr => ∃ (i : Nat) (cur : List Tsk), i ≤ len + 1 ∧ vi = .int .i64 i ∧ cur.length = len ∧ RB wr g cur rest ∧ Srt g w wr ∧ insSort (ltc cf) a b l = insOut (ltc cf) a b i cur) (fun vi _ => len + 1 - (intOf vi).toNat)
  case atStart => exact ⟨a + 1, l, by omega, by go_num, HL.out, HB0.out, Srt.rfl', rfl⟩
  case round =>
    obtain ⟨i, cur, hi, rfl, hcl, hB, hS, hR⟩ := hrel
    have HC0 := Lib.hid hcl
    have HR0 := Lib.hid hR
    have HB := Lib.hid hB
    clear hcl hR hB
    by_cases hib : i < b
    · go_wp2_with fail
      go_loopw [9] (fun vj wr => ∃ (j : Nat) (cu : List Tsk), j ≤ i ∧ vj = .int .i64 j ∧ cu.length = len ∧ RB wr g cu rest ∧ Srt g w wr ∧ insIn (ltc cf) a i cur = insIn (ltc cf) a j cu) (fun vj _ => (intOf vj).toNat)
      case atStart => exact ⟨i, cur, Nat.le_refl _, rfl, HC0.out, HB.out, hS, rfl⟩
      case round =>
        clear hS HB
        obtain ⟨j, cu, hj, rfl, hcl, hB, hS, hR⟩ := hrel
        have HC := Lib.hid hcl
        have HR := Lib.hid hR
        have HB := Lib.hid hB
        clear hcl hR hB
        by_cases haj : a < j
        · have hdec : decide ((a : Int) < (j : Int)) = true := by simp; omega
          go_wp2_with fail
          obtain ⟨ex, hex⟩ : ∃ e, gt cu (j) = e := ⟨_, rfl⟩
          obtain ⟨ey, hey⟩ : ∃ e, gt cu (j - 1) = e := ⟨_, rfl⟩
          have HX := Lib.hid hex
          have HY := Lib.hid hey
          clear hex hey
          refine wp_region_dets (by kernel_rfl) [] (fun _ w' => Srt g w w' ∧ RB w' g cu rest) (by kernel_rfl) rfl ⟨hS.dr, HB.out⟩ ?_
          repeat (refine det_p _ rfl rfl (fun w => by go_simp; with_reducible rfl) ?_; simp only [Nat.reduceAdd, Act.put, List.setIfInBounds_toArray, List.set_cons_succ, List.set_cons_zero])
          refine det_p _ rfl rfl (fun w => run_index_at 23 _ _ rfl 36 7 g 0 len c (j) _ rfl rfl (by first | rfl | omega | exact wrap_in _ (by omega) (by omega) | (rw [wrap_in _ (by omega) (by omega)]; omega)) (by omega) Tryz.underlying23 tsk_size) ?_
          simp only [Nat.reduceAdd, Act.put, List.setIfInBounds_toArray, List.set_cons_succ, List.set_cons_zero]
          refine det_r (.agg (Tsk.row ex).toArray) rfl rfl (fun L w hV hn => by
            have hat := hV.2.at_ (i := j) (by rw [HC.out]; omega)
            rw [HX.out] at hat
            exact run_load_cells 36 _ rfl ⟨g, (j) * 7, none⟩ (Tsk.row ex) (by show Value.pointer _ = _; rw [Nat.zero_add]) _ hat Tryz.underlying36 rfl tsk_size) ?_
          simp only [Nat.reduceAdd, Act.put, List.setIfInBounds_toArray, List.set_cons_succ, List.set_cons_zero]
          repeat (refine det_p _ rfl rfl (fun w => by go_simp; with_reducible rfl) ?_; simp only [Nat.reduceAdd, Act.put, List.setIfInBounds_toArray, List.set_cons_succ, List.set_cons_zero])
          refine det_p _ rfl rfl (fun w => run_index_at 23 _ _ rfl 36 7 g 0 len c (j - 1) _ rfl rfl (by first | rfl | omega | exact wrap_in _ (by omega) (by omega) | (rw [wrap_in _ (by omega) (by omega)]; omega)) (by omega) Tryz.underlying23 tsk_size) ?_
          simp only [Nat.reduceAdd, Act.put, List.setIfInBounds_toArray, List.set_cons_succ, List.set_cons_zero]
          refine det_r (.agg (Tsk.row ey).toArray) rfl rfl (fun L w hV hn => by
            have hat := hV.2.at_ (i := j - 1) (by rw [HC.out]; omega)
            rw [HY.out] at hat
            exact run_load_cells 36 _ rfl ⟨g, (j - 1) * 7, none⟩ (Tsk.row ey) (by show Value.pointer _ = _; rw [Nat.zero_add]) _ hat Tryz.underlying36 rfl tsk_size) ?_
          simp only [Nat.reduceAdd, Act.put, List.setIfInBounds_toArray, List.set_cons_succ, List.set_cons_zero]
          refine det_w (.int .i64 (cf ex ey)) rfl (fun L w hV hi hd hn => by
            refine wp_call_fn _ _ _ rfl F caps #[Tsk.val ex, Tsk.val ey] rfl (by simp only [List.map_toArray, List.map_cons, List.map_nil]; rfl) hF ?_
            refine (Hcmp.out ex ey w hV.1).mono ?_
            rintro e w' ⟨rfl, he⟩
            exact ⟨_, rfl, rfl, hV.1.tr (Srt.of_ext he), hV.2.ext he⟩) ?_
          simp only [Nat.reduceAdd, Act.put, List.setIfInBounds_toArray, List.set_cons_succ, List.set_cons_zero]
          repeat (refine det_p _ rfl rfl (fun w => by go_simp; with_reducible rfl) ?_; simp only [Nat.reduceAdd, Act.put, List.setIfInBounds_toArray, List.set_cons_succ, List.set_cons_zero])
          intro w1 hV
          have hS1 := hV.1
          have HB1 := Lib.hid hV.2
          clear hV
          clear hS HB
          have hS := hS1
          have HB := HB1
          clear hS1 HB1
          by_cases hlt : cf ex ey < 0
          · go_wp2_with fail
            refine wp_region_dets (by kernel_rfl) [15, 17] (fun B w' => Srt g w w' ∧ match B with | [false, false] => RB w' g cu rest | [true, false] => RB w' g (cu.set (j) (gt cu (j - 1))) rest | _ => RB w' g (swp cu (j) (j - 1)) rest) (by kernel_rfl) rfl ⟨hS.dr, HB.out⟩ ?_
            repeat (refine det_p _ rfl rfl (fun w => by go_simp; with_reducible rfl) ?_; simp only [Nat.reduceAdd, Act.put, List.setIfInBounds_toArray, List.set_cons_succ, List.set_cons_zero])
            refine det_p _ rfl rfl (fun w => run_index_at 23 _ _ rfl 36 7 g 0 len c (j - 1) _ rfl rfl (by first | rfl | omega | exact wrap_in _ (by omega) (by omega) | (rw [wrap_in _ (by omega) (by omega)]; omega)) (by omega) Tryz.underlying23 tsk_size) ?_
            simp only [Nat.reduceAdd, Act.put, List.setIfInBounds_toArray, List.set_cons_succ, List.set_cons_zero]
            refine det_r (.agg (Tsk.row (gt cu (j - 1))).toArray) rfl rfl (fun L w hV hn => by
              have h0 := hn 15 (by kernel_rfl)
              have h1 := hn 17 (by kernel_rfl)
              simp only [List.map, h0, h1] at hV
              exact run_load_cells 36 _ rfl ⟨g, (j - 1) * 7, none⟩ (Tsk.row (gt cu (j - 1))) (by show Value.pointer _ = _; rw [Nat.zero_add]) _ (hV.2.at_ (by rw [HC.out]; omega)) Tryz.underlying36 rfl tsk_size) ?_
            simp only [Nat.reduceAdd, Act.put, List.setIfInBounds_toArray, List.set_cons_succ, List.set_cons_zero]
            repeat (refine det_p _ rfl rfl (fun w => by go_simp; with_reducible rfl) ?_; simp only [Nat.reduceAdd, Act.put, List.setIfInBounds_toArray, List.set_cons_succ, List.set_cons_zero])
            refine det_p _ rfl rfl (fun w => run_index_at 23 _ _ rfl 36 7 g 0 len c (j) _ rfl rfl (by first | rfl | omega | exact wrap_in _ (by omega) (by omega) | (rw [wrap_in _ (by omega) (by omega)]; omega)) (by omega) Tryz.underlying23 tsk_size) ?_
            simp only [Nat.reduceAdd, Act.put, List.setIfInBounds_toArray, List.set_cons_succ, List.set_cons_zero]
            refine det_r (.agg (Tsk.row (gt cu (j))).toArray) rfl rfl (fun L w hV hn => by
              have h0 := hn 15 (by kernel_rfl)
              have h1 := hn 17 (by kernel_rfl)
              simp only [List.map, h0, h1] at hV
              exact run_load_cells 36 _ rfl ⟨g, (j) * 7, none⟩ (Tsk.row (gt cu (j))) (by show Value.pointer _ = _; rw [Nat.zero_add]) _ (hV.2.at_ (by rw [HC.out]; omega)) Tryz.underlying36 rfl tsk_size) ?_
            simp only [Nat.reduceAdd, Act.put, List.setIfInBounds_toArray, List.set_cons_succ, List.set_cons_zero]
            repeat (refine det_p _ rfl rfl (fun w => by go_simp; with_reducible rfl) ?_; simp only [Nat.reduceAdd, Act.put, List.setIfInBounds_toArray, List.set_cons_succ, List.set_cons_zero])
            refine det_p _ rfl rfl (fun w => run_index_at 23 _ _ rfl 36 7 g 0 len c (j) _ rfl rfl (by first | rfl | omega | exact wrap_in _ (by omega) (by omega) | (rw [wrap_in _ (by omega) (by omega)]; omega)) (by omega) Tryz.underlying23 tsk_size) ?_
            simp only [Nat.reduceAdd, Act.put, List.setIfInBounds_toArray, List.set_cons_succ, List.set_cons_zero]
            refine det_w undef rfl (fun L w hV hi hd hn => by
              have h2 := hn 17 (by kernel_rfl)
              simp only [List.map, hi, h2] at hV
              refine wp_store_agg 36 _ _ rfl g ((j) * 7) 36 _ (Tsk.row (gt cu (j - 1))) (by show Value.pointer _ = _; rw [Nat.zero_add]) rfl hV.2 (RB.fit (g := g) (by rw [HC.out]; omega) _) tsk_size (tsk_one _) ?_
              intro w1 hb1 ho1
              rw [flat_splice Tsk.row 7 tsk_len _ _ _ _ (by rw [HC.out]; omega)] at hb1
              simp only [List.map, h2]
              exact ⟨(by trivial), hV.1.tr (Srt.of_only ho1), hb1⟩) ?_
            simp only [Nat.reduceAdd, Act.put, List.setIfInBounds_toArray, List.set_cons_succ, List.set_cons_zero]
            refine det_p _ rfl rfl (fun w => run_index_at 23 _ _ rfl 36 7 g 0 len c (j - 1) _ rfl rfl (by first | rfl | omega | exact wrap_in _ (by omega) (by omega) | (rw [wrap_in _ (by omega) (by omega)]; omega)) (by omega) Tryz.underlying23 tsk_size) ?_
            simp only [Nat.reduceAdd, Act.put, List.setIfInBounds_toArray, List.set_cons_succ, List.set_cons_zero]
            refine det_w undef rfl (fun L w hV hi hd hn => by
              have h2 := hd 15 (by kernel_rfl)
              simp only [List.map, hi, h2] at hV
              refine wp_store_agg 36 _ _ rfl g ((j - 1) * 7) 36 _ (Tsk.row (gt cu (j))) (by show Value.pointer _ = _; rw [Nat.zero_add]) rfl hV.2 (RB.fit (g := g) (by rw [List.length_set, HC.out]; omega) _) tsk_size (tsk_one _) ?_
              intro w1 hb1 ho1
              rw [flat_splice Tsk.row 7 tsk_len _ _ _ _ (by rw [List.length_set, HC.out]; omega)] at hb1
              simp only [List.map, h2]
              exact ⟨(by trivial), hV.1.tr (Srt.of_only ho1), hb1⟩) ?_
            simp only [Nat.reduceAdd, Act.put, List.setIfInBounds_toArray, List.set_cons_succ, List.set_cons_zero]
            intro w1 hV
            simp only [List.map] at hV
            have hS1 := hV.1
            have HB1 := Lib.hid hV.2
            clear hV
            go_wp2
            go_roundw
            case rel => exact ⟨j - 1, _, by omega, congrArg (Value.int .i64) (by omega), (swp_len _ _ _).trans HC.out, HB1.out, hS1, by rw [HR.out, insIn_go haj (by rw [HX.out, HY.out]; simp only [ltc, decide_eq_true_eq]; exact hlt)]⟩
            case measure => simp [intOf]; omega
          · go_wp2
            go_roundw
            case rel => exact ⟨i + 1, cu, by omega, by go_num, HC.out, HB.out, hS, by rw [HR0.out, insOut_go hib, HR.out, insIn_stop (by rw [HX.out, HY.out]; simp only [ltc, decide_eq_true_eq]; exact fun h => hlt h.2)]⟩
            case measure => simp [intOf]; omega
        · have hdec : decide ((a : Int) < (j : Int)) = false := by simp; omega
          go_wp2_with fail
          refine wp_region_dets (by kernel_rfl) [] (fun _ w' => Srt g w w' ∧ RB w' g cu rest) (by kernel_rfl) rfl ⟨hS.dr, HB.out⟩ ?_
          repeat (refine det_p _ rfl rfl (fun w => by go_simp; with_reducible rfl) ?_; simp only [Nat.reduceAdd, Act.put, List.setIfInBounds_toArray, List.set_cons_succ, List.set_cons_zero])
          repeat (refine det_s rfl rfl ?_; simp only [Nat.reduceAdd, Act.put, List.setIfInBounds_toArray, List.set_cons_succ, List.set_cons_zero])
          repeat (refine det_p _ rfl rfl (fun w => by go_simp; with_reducible rfl) ?_; simp only [Nat.reduceAdd, Act.put, List.setIfInBounds_toArray, List.set_cons_succ, List.set_cons_zero])
          intro w1 hV
          have hS1 := hV.1
          have HB1 := Lib.hid hV.2
          clear hV
          go_wp2
          go_roundw
          case rel => exact ⟨i + 1, cu, by omega, by go_num, HC.out, HB1.out, hS1, by rw [HR0.out, insOut_go hib, HR.out, insIn_stop (fun h => haj h.1)]⟩
          case measure => simp [intOf]; omega
    · go_wp2
      go_end0
      refine ⟨rfl, ?_, hS⟩
      rw [HR0.out, insOut_end hib]
      exact HB.out
end Go.Proofs.YthhmbijblpjfpaaGreat
