/- The walks of the stable sort: merging. -/
import Derived.Test.YthhmbijblpjfpaaGreatSort2
namespace Go.Proofs.YthhmbijblpjfpaaGreat
open Go.RowKit

theorem bs_go1 {p : Nat → Bool} {i j : Nat} (h : i < j) (hp : p ((i + j) / 2) = true) : bs p i j = bs p ((i + j) / 2 + 1) j := by rw [bs, if_pos h, if_pos hp]
theorem bs_go0 {p : Nat → Bool} {i j : Nat} (h : i < j) (hp : p ((i + j) / 2) = false) : bs p i j = bs p i ((i + j) / 2) := by rw [bs, if_pos h, if_neg (by simp [hp])]
theorem bs_end {p : Nat → Bool} {i j : Nat} (h : ¬ i < j) : bs p i j = i := by rw [bs, if_neg h]
theorem upW_go {b k : Nat} {l : List Tsk} (h : k < b) : upW b k l = upW b (k + 1) (swp l k (k + 1)) := by rw [upW, if_pos h]
theorem upW_end {b k : Nat} {l : List Tsk} (h : ¬ k < b) : upW b k l = l := by rw [upW, if_neg h]
theorem dnW_go {i k : Nat} {l : List Tsk} (h : i < k) : dnW i k l = dnW i (k - 1) (swp l k (k - 1)) := by
  cases k with
  | zero => omega
  | succ k => conv => lhs; unfold dnW
              exact if_pos h
theorem dnW_end {i k : Nat} {l : List Tsk} (h : ¬ i < k) : dnW i k l = l := by
  cases k with
  | zero => rfl
  | succ k => conv => lhs; unfold dnW
              exact if_neg h

set_option maxRecDepth 100000 in
set_option maxHeartbeats 1000000 in
theorem symMerge_A (g c a m b : Nat) (va vm vb : Int) (F : Nat) (caps : Array Value) (cf : Tsk → Tsk → Int) (l : List Tsk) (len : Nat) (rest : List Value) (w : World)
    (hF : ∀ args w, Sem.run Tryz.prog (callFunc F args) w = .ok (.enter F args) w) (hc : CmpOK F caps cf g w)
    (hva : va = (a : Int)) (hvm : vm = (m : Int)) (hvb : vb = (b : Int)) (hlen : l.length = len) (hB : RB w g l rest) (ham : a < m) (hmb : m < b) (hb : b ≤ len) (hl : len ≤ 1000000) (h1 : m - a = 1) :
    Calls Tryz.prog 142 #[.slice (some ⟨g, 0, none⟩) len c, .int .i64 va, .int .i64 vm, .int .i64 vb, .func (.func F) #[] caps] w
      fun e w' => e = .returned (.tuple #[]) ∧ RB w' g (upW (bs (fun h => ltc cf (gt l h) (gt l a)) m b - 1) a l) rest ∧ Srt g w w' := by
  subst hva hvm hvb
  have Hcmp := Lib.hid hc
  have HL := Lib.hid hlen
  have HB0 := Lib.hid hB
  clear hlen hB hc
  have hd1 : ((m : Int) - (a : Int) == 1) = true := by simp; omega
  go_enter Tryz.func142, Tryz.ntmps142
  go_wp2_with fail
  go_loopw [10, 11] (fun vi vj wr => ∃ (i j : Nat), m ≤ i ∧ i ≤ j ∧ j ≤ b ∧ vi = .int .i64 i ∧ vj = .int .i64 j ∧ RB wr g l rest ∧ Srt g w wr ∧ bs (fun h => ltc cf (gt l h) (gt l a)) m b = bs (fun h => ltc cf (gt l h) (gt l a)) i j) (fun vi vj _ => (intOf vj).toNat - (intOf vi).toNat)
  case atStart => exact ⟨m, b, Nat.le_refl _, by omega, Nat.le_refl _, rfl, rfl, HB0.out, Srt.rfl', rfl⟩
  case round =>
    obtain ⟨i, j, hmi, hij, hjb, rfl, rfl, hB, hS, hR⟩ := hrel
    have HC := HL
    have HR := Lib.hid hR
    have HB := Lib.hid hB
    clear hR hB
    by_cases hlt : i < j
    · go_wp2_with fail
      obtain ⟨ex, hex⟩ : ∃ e, gt l ((i + j) / 2) = e := ⟨_, rfl⟩
      obtain ⟨ey, hey⟩ : ∃ e, gt l (a) = e := ⟨_, rfl⟩
      have HX := Lib.hid hex
      have HY := Lib.hid hey
      clear hex hey
      refine wp_region_dets (by kernel_rfl) [] (fun _ w' => Srt g w w' ∧ RB w' g l rest) (by kernel_rfl) rfl ⟨hS.dr, HB.out⟩ ?_
      repeat (refine det_p _ rfl rfl (fun w => by go_simp; with_reducible rfl) ?_; simp only [Nat.reduceAdd, Act.put, List.setIfInBounds_toArray, List.set_cons_succ, List.set_cons_zero])
      refine det_p _ rfl rfl (fun w => run_index_at 23 _ _ rfl 36 7 g 0 len c ((i + j) / 2) _ rfl rfl (by first | rfl | omega | exact wrap_in _ (by omega) (by omega) | (rw [wrap_in _ (by omega) (by omega)]; omega)) (by omega) Tryz.underlying23 tsk_size) ?_
      simp only [Nat.reduceAdd, Act.put, List.setIfInBounds_toArray, List.set_cons_succ, List.set_cons_zero]
      refine det_r (.agg (Tsk.row ex).toArray) rfl rfl (fun L w hV hn => by
        have hat := hV.2.at_ (i := (i + j) / 2) (by rw [HC.out]; omega)
        rw [HX.out] at hat
        exact run_load_cells 36 _ rfl ⟨g, ((i + j) / 2) * 7, none⟩ (Tsk.row ex) (by show Value.pointer _ = _; rw [Nat.zero_add]) _ hat Tryz.underlying36 rfl tsk_size) ?_
      simp only [Nat.reduceAdd, Act.put, List.setIfInBounds_toArray, List.set_cons_succ, List.set_cons_zero]
      repeat (refine det_p _ rfl rfl (fun w => by go_simp; with_reducible rfl) ?_; simp only [Nat.reduceAdd, Act.put, List.setIfInBounds_toArray, List.set_cons_succ, List.set_cons_zero])
      refine det_p _ rfl rfl (fun w => run_index_at 23 _ _ rfl 36 7 g 0 len c (a) _ rfl rfl (by first | rfl | omega | exact wrap_in _ (by omega) (by omega) | (rw [wrap_in _ (by omega) (by omega)]; omega)) (by omega) Tryz.underlying23 tsk_size) ?_
      simp only [Nat.reduceAdd, Act.put, List.setIfInBounds_toArray, List.set_cons_succ, List.set_cons_zero]
      refine det_r (.agg (Tsk.row ey).toArray) rfl rfl (fun L w hV hn => by
        have hat := hV.2.at_ (i := a) (by rw [HC.out]; omega)
        rw [HY.out] at hat
        exact run_load_cells 36 _ rfl ⟨g, (a) * 7, none⟩ (Tsk.row ey) (by show Value.pointer _ = _; rw [Nat.zero_add]) _ hat Tryz.underlying36 rfl tsk_size) ?_
      simp only [Nat.reduceAdd, Act.put, List.setIfInBounds_toArray, List.set_cons_succ, List.set_cons_zero]
      refine det_w (.int .i64 (cf ex ey)) rfl (fun L w hV hi hd hn => by
        refine wp_call_fn _ _ _ rfl F caps #[Tsk.val ex, Tsk.val ey] rfl (by simp only [List.map_toArray, List.map_cons, List.map_nil]; rfl) hF ?_
        refine (Hcmp.out ex ey w hV.1).mono ?_
        rintro e w' ⟨rfl, he⟩
        exact ⟨_, rfl, rfl, hV.1.tr (Srt.of_ext he), hV.2.ext he⟩) ?_
      simp only [Nat.reduceAdd, Act.put, List.setIfInBounds_toArray, List.set_cons_succ, List.set_cons_zero]
      repeat (refine det_p _ rfl rfl (fun w => by go_simp; with_reducible rfl) ?_; simp only [Nat.reduceAdd, Act.put, List.setIfInBounds_toArray, List.set_cons_succ, List.set_cons_zero])
      intro w1 hV
      have hS1 := hV.1
      have HB1 := Lib.hid hV.2
      clear hV
      clear hS HB
      have hS := hS1
      have HB := HB1
      clear hS1 HB1
      have hp : ltc cf (gt l ((i + j) / 2)) (gt l a) = decide (cf ex ey < 0) := by rw [HX.out, HY.out]
      have HP := Lib.hid hp
      clear hp
      by_cases hlt2 : cf ex ey < 0
      · go_wp2
        go_roundw
        case rel => exact ⟨(i + j) / 2 + 1, j, by omega, by omega, hjb, congrArg (Value.int .i64) (by omega), rfl, HB.out, hS, by rw [HR.out, bs_go1 hlt (by rw [HP.out]; simp [hlt2])]⟩
        case measure => simp [intOf]; omega
      · go_wp2
        go_roundw
        case rel => exact ⟨i, (i + j) / 2, by omega, by omega, by omega, rfl, congrArg (Value.int .i64) (by omega), HB.out, hS, by rw [HR.out, bs_go0 hlt (by rw [HP.out]; simp [hlt2])]⟩
        case measure => simp [intOf]; omega
    · have HI := Lib.hid (show bs (fun h => ltc cf (gt l h) (gt l a)) m b = i by rw [HR.out, bs_end hlt])
      go_wp2_with fail
      go_loopw [13] (fun vk wr => ∃ (k : Nat) (cur : List Tsk), k ≤ len ∧ vk = .int .i64 k ∧ cur.length = len ∧ RB wr g cur rest ∧ Srt g w wr ∧ upW (i - 1) a l = upW (i - 1) k cur) (fun vk _ => len - (intOf vk).toNat)
      case atStart => exact ⟨a, l, by omega, rfl, HL.out, HB.out, hS, rfl⟩
      case round =>
        clear hS HB HR HC
        obtain ⟨k, cur, hkl, rfl, hcl, hB, hS, hR⟩ := hrel
        have HC := Lib.hid hcl
        have HR := Lib.hid hR
        have HB := Lib.hid hB
        clear hcl hR hB
        by_cases hk : k < i - 1
        · go_wp2_with fail
          refine wp_region_dets (by kernel_rfl) [15, 17] (fun B w' => Srt g w w' ∧ match B with | [false, false] => RB w' g cur rest | [true, false] => RB w' g (cur.set (k) (gt cur (k + 1))) rest | _ => RB w' g (swp cur (k) (k + 1)) rest) (by kernel_rfl) rfl ⟨hS.dr, HB.out⟩ ?_
          repeat (refine det_p _ rfl rfl (fun w => by go_simp; with_reducible rfl) ?_; simp only [Nat.reduceAdd, Act.put, List.setIfInBounds_toArray, List.set_cons_succ, List.set_cons_zero])
          refine det_p _ rfl rfl (fun w => run_index_at 23 _ _ rfl 36 7 g 0 len c (k + 1) _ rfl rfl (by first | rfl | omega | exact wrap_in _ (by omega) (by omega) | (rw [wrap_in _ (by omega) (by omega)]; omega)) (by omega) Tryz.underlying23 tsk_size) ?_
          simp only [Nat.reduceAdd, Act.put, List.setIfInBounds_toArray, List.set_cons_succ, List.set_cons_zero]
          refine det_r (.agg (Tsk.row (gt cur (k + 1))).toArray) rfl rfl (fun L w hV hn => by
            have h0 := hn 15 (by kernel_rfl)
            have h1 := hn 17 (by kernel_rfl)
            simp only [List.map, h0, h1] at hV
            exact run_load_cells 36 _ rfl ⟨g, (k + 1) * 7, none⟩ (Tsk.row (gt cur (k + 1))) (by show Value.pointer _ = _; rw [Nat.zero_add]) _ (hV.2.at_ (by rw [HC.out]; omega)) Tryz.underlying36 rfl tsk_size) ?_
          simp only [Nat.reduceAdd, Act.put, List.setIfInBounds_toArray, List.set_cons_succ, List.set_cons_zero]
          repeat (refine det_p _ rfl rfl (fun w => by go_simp; with_reducible rfl) ?_; simp only [Nat.reduceAdd, Act.put, List.setIfInBounds_toArray, List.set_cons_succ, List.set_cons_zero])
          refine det_p _ rfl rfl (fun w => run_index_at 23 _ _ rfl 36 7 g 0 len c (k) _ rfl rfl (by first | rfl | omega | exact wrap_in _ (by omega) (by omega) | (rw [wrap_in _ (by omega) (by omega)]; omega)) (by omega) Tryz.underlying23 tsk_size) ?_
          simp only [Nat.reduceAdd, Act.put, List.setIfInBounds_toArray, List.set_cons_succ, List.set_cons_zero]
          refine det_r (.agg (Tsk.row (gt cur (k))).toArray) rfl rfl (fun L w hV hn => by
            have h0 := hn 15 (by kernel_rfl)
            have h1 := hn 17 (by kernel_rfl)
            simp only [List.map, h0, h1] at hV
            exact run_load_cells 36 _ rfl ⟨g, (k) * 7, none⟩ (Tsk.row (gt cur (k))) (by show Value.pointer _ = _; rw [Nat.zero_add]) _ (hV.2.at_ (by rw [HC.out]; omega)) Tryz.underlying36 rfl tsk_size) ?_
          simp only [Nat.reduceAdd, Act.put, List.setIfInBounds_toArray, List.set_cons_succ, List.set_cons_zero]
          repeat (refine det_p _ rfl rfl (fun w => by go_simp; with_reducible rfl) ?_; simp only [Nat.reduceAdd, Act.put, List.setIfInBounds_toArray, List.set_cons_succ, List.set_cons_zero])
          refine det_p _ rfl rfl (fun w => run_index_at 23 _ _ rfl 36 7 g 0 len c (k) _ rfl rfl (by first | rfl | omega | exact wrap_in _ (by omega) (by omega) | (rw [wrap_in _ (by omega) (by omega)]; omega)) (by omega) Tryz.underlying23 tsk_size) ?_
          simp only [Nat.reduceAdd, Act.put, List.setIfInBounds_toArray, List.set_cons_succ, List.set_cons_zero]
          refine det_w undef rfl (fun L w hV hi hd hn => by
            have h2 := hn 17 (by kernel_rfl)
            simp only [List.map, hi, h2] at hV
            refine wp_store_agg 36 _ _ rfl g ((k) * 7) 36 _ (Tsk.row (gt cur (k + 1))) (by show Value.pointer _ = _; rw [Nat.zero_add]) rfl hV.2 (RB.fit (g := g) (by rw [HC.out]; omega) _) tsk_size (tsk_one _) ?_
            intro w1 hb1 ho1
            rw [flat_splice Tsk.row 7 tsk_len _ _ _ _ (by rw [HC.out]; omega)] at hb1
            simp only [List.map, h2]
            exact ⟨(by trivial), hV.1.tr (Srt.of_only ho1), hb1⟩) ?_
          simp only [Nat.reduceAdd, Act.put, List.setIfInBounds_toArray, List.set_cons_succ, List.set_cons_zero]
          refine det_p _ rfl rfl (fun w => run_index_at 23 _ _ rfl 36 7 g 0 len c (k + 1) _ rfl rfl (by first | rfl | omega | exact wrap_in _ (by omega) (by omega) | (rw [wrap_in _ (by omega) (by omega)]; omega)) (by omega) Tryz.underlying23 tsk_size) ?_
          simp only [Nat.reduceAdd, Act.put, List.setIfInBounds_toArray, List.set_cons_succ, List.set_cons_zero]
          refine det_w undef rfl (fun L w hV hi hd hn => by
            have h2 := hd 15 (by kernel_rfl)
            simp only [List.map, hi, h2] at hV
            refine wp_store_agg 36 _ _ rfl g ((k + 1) * 7) 36 _ (Tsk.row (gt cur (k))) (by show Value.pointer _ = _; rw [Nat.zero_add]) rfl hV.2 (RB.fit (g := g) (by rw [List.length_set, HC.out]; omega) _) tsk_size (tsk_one _) ?_
            intro w1 hb1 ho1
            rw [flat_splice Tsk.row 7 tsk_len _ _ _ _ (by rw [List.length_set, HC.out]; omega)] at hb1
            simp only [List.map, h2]
            exact ⟨(by trivial), hV.1.tr (Srt.of_only ho1), hb1⟩) ?_
          simp only [Nat.reduceAdd, Act.put, List.setIfInBounds_toArray, List.set_cons_succ, List.set_cons_zero]
          intro w1 hV
          simp only [List.map] at hV
          have hS1 := hV.1
          have HB1 := Lib.hid hV.2
          clear hV
          go_wp2
          go_roundw
          case rel => exact ⟨k + 1, _, by omega, by go_num, (swp_len _ _ _).trans HC.out, HB1.out, hS1, by rw [HR.out, upW_go hk]⟩
          case measure => simp [intOf]; omega
        · go_wp2
          refine bodyPost_ret (results_none rfl _ _ _) rfl ?_
          refine ⟨rfl, ?_, hS⟩
          rw [HI.out, HR.out, upW_end hk]
          exact HB.out

set_option maxRecDepth 100000 in
set_option maxHeartbeats 1000000 in
theorem symMerge_B (g c a m b : Nat) (va vm vb : Int) (F : Nat) (caps : Array Value) (cf : Tsk → Tsk → Int) (l : List Tsk) (len : Nat) (rest : List Value) (w : World)
    (hF : ∀ args w, Sem.run Tryz.prog (callFunc F args) w = .ok (.enter F args) w) (hc : CmpOK F caps cf g w)
    (hva : va = (a : Int)) (hvm : vm = (m : Int)) (hvb : vb = (b : Int)) (hlen : l.length = len) (hB : RB w g l rest) (ham : a < m) (hmb : m < b) (hb : b ≤ len) (hl : len ≤ 1000000) (h1 : ¬ m - a = 1) (h2 : b - m = 1) :
    Calls Tryz.prog 142 #[.slice (some ⟨g, 0, none⟩) len c, .int .i64 va, .int .i64 vm, .int .i64 vb, .func (.func F) #[] caps] w
      fun e w' => e = .returned (.tuple #[]) ∧ RB w' g (dnW (bs (fun h => !ltc cf (gt l m) (gt l h)) a m) m l) rest ∧ Srt g w w' := by
  subst hva hvm hvb
  have Hcmp := Lib.hid hc
  have HL := Lib.hid hlen
  have HB0 := Lib.hid hB
  clear hlen hB hc
  have hd1 : ((m : Int) - (a : Int) == 1) = false := by simp; omega
  have hd2 : ((b : Int) - (m : Int) == 1) = true := by simp; omega
  go_enter Tryz.func142, Tryz.ntmps142
  go_wp2_with fail
  go_loopw [14, 15] (fun vi vj wr => ∃ (i j : Nat), a ≤ i ∧ i ≤ j ∧ j ≤ m ∧ vi = .int .i64 i ∧ vj = .int .i64 j ∧ RB wr g l rest ∧ Srt g w wr ∧ bs (fun h => !ltc cf (gt l m) (gt l h)) a m = bs (fun h => !ltc cf (gt l m) (gt l h)) i j) (fun vi vj _ => (intOf vj).toNat - (intOf vi).toNat)
  case atStart => exact ⟨a, m, Nat.le_refl _, by omega, Nat.le_refl _, rfl, rfl, HB0.out, Srt.rfl', rfl⟩
  case round =>
    obtain ⟨i, j, hmi, hij, hjb, rfl, rfl, hB, hS, hR⟩ := hrel
    have HC := HL
    have HR := Lib.hid hR
    have HB := Lib.hid hB
    clear hR hB
    by_cases hlt : i < j
    · go_wp2_with fail
      obtain ⟨ex, hex⟩ : ∃ e, gt l (m) = e := ⟨_, rfl⟩
      obtain ⟨ey, hey⟩ : ∃ e, gt l ((i + j) / 2) = e := ⟨_, rfl⟩
      have HX := Lib.hid hex
      have HY := Lib.hid hey
      clear hex hey
      have hp : (!ltc cf (gt l m) (gt l ((i + j) / 2))) = !decide (cf ex ey < 0) := by rw [HX.out, HY.out]
      have HP := Lib.hid hp
      clear hp
      by_cases hlt2 : cf ex ey < 0
      · have hd3 : decide (cf ex ey < 0) = true := by simpa using hlt2
        refine wp_region_dets (by kernel_rfl) [] (fun _ w' => Srt g w w' ∧ RB w' g l rest) (by kernel_rfl) rfl ⟨hS.dr, HB.out⟩ ?_
        repeat (refine det_p _ rfl rfl (fun w => by go_simp; with_reducible rfl) ?_; simp only [Nat.reduceAdd, Act.put, List.setIfInBounds_toArray, List.set_cons_succ, List.set_cons_zero])
        refine det_p _ rfl rfl (fun w => run_index_at 23 _ _ rfl 36 7 g 0 len c (m) _ rfl rfl (by first | rfl | omega | exact wrap_in _ (by omega) (by omega) | (rw [wrap_in _ (by omega) (by omega)]; omega)) (by omega) Tryz.underlying23 tsk_size) ?_
        simp only [Nat.reduceAdd, Act.put, List.setIfInBounds_toArray, List.set_cons_succ, List.set_cons_zero]
        refine det_r (.agg (Tsk.row ex).toArray) rfl rfl (fun L w hV hn => by
          have hat := hV.2.at_ (i := m) (by rw [HC.out]; omega)
          rw [HX.out] at hat
          exact run_load_cells 36 _ rfl ⟨g, (m) * 7, none⟩ (Tsk.row ex) (by show Value.pointer _ = _; rw [Nat.zero_add]) _ hat Tryz.underlying36 rfl tsk_size) ?_
        simp only [Nat.reduceAdd, Act.put, List.setIfInBounds_toArray, List.set_cons_succ, List.set_cons_zero]
        repeat (refine det_p _ rfl rfl (fun w => by go_simp; with_reducible rfl) ?_; simp only [Nat.reduceAdd, Act.put, List.setIfInBounds_toArray, List.set_cons_succ, List.set_cons_zero])
        refine det_p _ rfl rfl (fun w => run_index_at 23 _ _ rfl 36 7 g 0 len c ((i + j) / 2) _ rfl rfl (by first | rfl | omega | exact wrap_in _ (by omega) (by omega) | (rw [wrap_in _ (by omega) (by omega)]; omega)) (by omega) Tryz.underlying23 tsk_size) ?_
        simp only [Nat.reduceAdd, Act.put, List.setIfInBounds_toArray, List.set_cons_succ, List.set_cons_zero]
        refine det_r (.agg (Tsk.row ey).toArray) rfl rfl (fun L w hV hn => by
          have hat := hV.2.at_ (i := (i + j) / 2) (by rw [HC.out]; omega)
          rw [HY.out] at hat
          exact run_load_cells 36 _ rfl ⟨g, ((i + j) / 2) * 7, none⟩ (Tsk.row ey) (by show Value.pointer _ = _; rw [Nat.zero_add]) _ hat Tryz.underlying36 rfl tsk_size) ?_
        simp only [Nat.reduceAdd, Act.put, List.setIfInBounds_toArray, List.set_cons_succ, List.set_cons_zero]
        refine det_w (.int .i64 (cf ex ey)) rfl (fun L w hV hi hd hn => by
          refine wp_call_fn _ _ _ rfl F caps #[Tsk.val ex, Tsk.val ey] rfl (by simp only [List.map_toArray, List.map_cons, List.map_nil]; rfl) hF ?_
          refine (Hcmp.out ex ey w hV.1).mono ?_
          rintro e w' ⟨rfl, he⟩
          exact ⟨_, rfl, rfl, hV.1.tr (Srt.of_ext he), hV.2.ext he⟩) ?_
        simp only [Nat.reduceAdd, Act.put, List.setIfInBounds_toArray, List.set_cons_succ, List.set_cons_zero]
        repeat (refine det_p _ rfl rfl (fun w => by go_simp; with_reducible rfl) ?_; simp only [Nat.reduceAdd, Act.put, List.setIfInBounds_toArray, List.set_cons_succ, List.set_cons_zero])
        intro w1 hV
        have hS1 := hV.1
        have HB1 := Lib.hid hV.2
        clear hV
        clear hS HB
        have hS := hS1
        have HB := HB1
        clear hS1 HB1
        go_wp2
        go_roundw
        case rel => exact ⟨i, (i + j) / 2, by omega, by omega, by omega, rfl, congrArg (Value.int .i64) (by omega), HB.out, hS, by rw [HR.out, bs_go0 hlt (by rw [HP.out]; simp [hlt2])]⟩
        case measure => simp [intOf]; omega
      · have hd3 : decide (cf ex ey < 0) = false := by simpa using hlt2
        refine wp_region_dets (by kernel_rfl) [] (fun _ w' => Srt g w w' ∧ RB w' g l rest) (by kernel_rfl) rfl ⟨hS.dr, HB.out⟩ ?_
        repeat (refine det_p _ rfl rfl (fun w => by go_simp; with_reducible rfl) ?_; simp only [Nat.reduceAdd, Act.put, List.setIfInBounds_toArray, List.set_cons_succ, List.set_cons_zero])
        refine det_p _ rfl rfl (fun w => run_index_at 23 _ _ rfl 36 7 g 0 len c (m) _ rfl rfl (by first | rfl | omega | exact wrap_in _ (by omega) (by omega) | (rw [wrap_in _ (by omega) (by omega)]; omega)) (by omega) Tryz.underlying23 tsk_size) ?_
        simp only [Nat.reduceAdd, Act.put, List.setIfInBounds_toArray, List.set_cons_succ, List.set_cons_zero]
        refine det_r (.agg (Tsk.row ex).toArray) rfl rfl (fun L w hV hn => by
          have hat := hV.2.at_ (i := m) (by rw [HC.out]; omega)
          rw [HX.out] at hat
          exact run_load_cells 36 _ rfl ⟨g, (m) * 7, none⟩ (Tsk.row ex) (by show Value.pointer _ = _; rw [Nat.zero_add]) _ hat Tryz.underlying36 rfl tsk_size) ?_
        simp only [Nat.reduceAdd, Act.put, List.setIfInBounds_toArray, List.set_cons_succ, List.set_cons_zero]
        repeat (refine det_p _ rfl rfl (fun w => by go_simp; with_reducible rfl) ?_; simp only [Nat.reduceAdd, Act.put, List.setIfInBounds_toArray, List.set_cons_succ, List.set_cons_zero])
        refine det_p _ rfl rfl (fun w => run_index_at 23 _ _ rfl 36 7 g 0 len c ((i + j) / 2) _ rfl rfl (by first | rfl | omega | exact wrap_in _ (by omega) (by omega) | (rw [wrap_in _ (by omega) (by omega)]; omega)) (by omega) Tryz.underlying23 tsk_size) ?_
        simp only [Nat.reduceAdd, Act.put, List.setIfInBounds_toArray, List.set_cons_succ, List.set_cons_zero]
        refine det_r (.agg (Tsk.row ey).toArray) rfl rfl (fun L w hV hn => by
          have hat := hV.2.at_ (i := (i + j) / 2) (by rw [HC.out]; omega)
          rw [HY.out] at hat
          exact run_load_cells 36 _ rfl ⟨g, ((i + j) / 2) * 7, none⟩ (Tsk.row ey) (by show Value.pointer _ = _; rw [Nat.zero_add]) _ hat Tryz.underlying36 rfl tsk_size) ?_
        simp only [Nat.reduceAdd, Act.put, List.setIfInBounds_toArray, List.set_cons_succ, List.set_cons_zero]
        refine det_w (.int .i64 (cf ex ey)) rfl (fun L w hV hi hd hn => by
          refine wp_call_fn _ _ _ rfl F caps #[Tsk.val ex, Tsk.val ey] rfl (by simp only [List.map_toArray, List.map_cons, List.map_nil]; rfl) hF ?_
          refine (Hcmp.out ex ey w hV.1).mono ?_
          rintro e w' ⟨rfl, he⟩
          exact ⟨_, rfl, rfl, hV.1.tr (Srt.of_ext he), hV.2.ext he⟩) ?_
        simp only [Nat.reduceAdd, Act.put, List.setIfInBounds_toArray, List.set_cons_succ, List.set_cons_zero]
        repeat (refine det_p _ rfl rfl (fun w => by go_simp; with_reducible rfl) ?_; simp only [Nat.reduceAdd, Act.put, List.setIfInBounds_toArray, List.set_cons_succ, List.set_cons_zero])
        intro w1 hV
        have hS1 := hV.1
        have HB1 := Lib.hid hV.2
        clear hV
        clear hS HB
        have hS := hS1
        have HB := HB1
        clear hS1 HB1
        go_wp2
        go_roundw
        case rel => exact ⟨(i + j) / 2 + 1, j, by omega, by omega, hjb, congrArg (Value.int .i64) (by omega), rfl, HB.out, hS, by rw [HR.out, bs_go1 hlt (by rw [HP.out]; simp [hlt2])]⟩
        case measure => simp [intOf]; omega
    · have HI := Lib.hid (show bs (fun h => !ltc cf (gt l m) (gt l h)) a m = i by rw [HR.out, bs_end hlt])
      go_wp2_with fail
      go_loopw [17] (fun vk wr => ∃ (k : Nat) (cur : List Tsk), k ≤ m ∧ vk = .int .i64 k ∧ cur.length = len ∧ RB wr g cur rest ∧ Srt g w wr ∧ dnW i m l = dnW i k cur) (fun vk _ => (intOf vk).toNat)
      case atStart => exact ⟨m, l, by omega, rfl, HL.out, HB.out, hS, rfl⟩
      case round =>
        clear hS HB HR HC
        obtain ⟨k, cur, hkl, rfl, hcl, hB, hS, hR⟩ := hrel
        have HC := Lib.hid hcl
        have HR := Lib.hid hR
        have HB := Lib.hid hB
        clear hcl hR hB
        by_cases hk : i < k
        · go_wp2_with fail
          refine wp_region_dets (by kernel_rfl) [15, 17] (fun B w' => Srt g w w' ∧ match B with | [false, false] => RB w' g cur rest | [true, false] => RB w' g (cur.set (k) (gt cur (k - 1))) rest | _ => RB w' g (swp cur (k) (k - 1)) rest) (by kernel_rfl) rfl ⟨hS.dr, HB.out⟩ ?_
          repeat (refine det_p _ rfl rfl (fun w => by go_simp; with_reducible rfl) ?_; simp only [Nat.reduceAdd, Act.put, List.setIfInBounds_toArray, List.set_cons_succ, List.set_cons_zero])
          refine det_p _ rfl rfl (fun w => run_index_at 23 _ _ rfl 36 7 g 0 len c (k - 1) _ rfl rfl (by first | rfl | omega | exact wrap_in _ (by omega) (by omega) | (rw [wrap_in _ (by omega) (by omega)]; omega)) (by omega) Tryz.underlying23 tsk_size) ?_
          simp only [Nat.reduceAdd, Act.put, List.setIfInBounds_toArray, List.set_cons_succ, List.set_cons_zero]
          refine det_r (.agg (Tsk.row (gt cur (k - 1))).toArray) rfl rfl (fun L w hV hn => by
            have h0 := hn 15 (by kernel_rfl)
            have h1 := hn 17 (by kernel_rfl)
            simp only [List.map, h0, h1] at hV
            exact run_load_cells 36 _ rfl ⟨g, (k - 1) * 7, none⟩ (Tsk.row (gt cur (k - 1))) (by show Value.pointer _ = _; rw [Nat.zero_add]) _ (hV.2.at_ (by rw [HC.out]; omega)) Tryz.underlying36 rfl tsk_size) ?_
          simp only [Nat.reduceAdd, Act.put, List.setIfInBounds_toArray, List.set_cons_succ, List.set_cons_zero]
          repeat (refine det_p _ rfl rfl (fun w => by go_simp; with_reducible rfl) ?_; simp only [Nat.reduceAdd, Act.put, List.setIfInBounds_toArray, List.set_cons_succ, List.set_cons_zero])
          refine det_p _ rfl rfl (fun w => run_index_at 23 _ _ rfl 36 7 g 0 len c (k) _ rfl rfl (by first | rfl | omega | exact wrap_in _ (by omega) (by omega) | (rw [wrap_in _ (by omega) (by omega)]; omega)) (by omega) Tryz.underlying23 tsk_size) ?_
          simp only [Nat.reduceAdd, Act.put, List.setIfInBounds_toArray, List.set_cons_succ, List.set_cons_zero]
          refine det_r (.agg (Tsk.row (gt cur (k))).toArray) rfl rfl (fun L w hV hn => by
            have h0 := hn 15 (by kernel_rfl)
            have h1 := hn 17 (by kernel_rfl)
            simp only [List.map, h0, h1] at hV
            exact run_load_cells 36 _ rfl ⟨g, (k) * 7, none⟩ (Tsk.row (gt cur (k))) (by show Value.pointer _ = _; rw [Nat.zero_add]) _ (hV.2.at_ (by rw [HC.out]; omega)) Tryz.underlying36 rfl tsk_size) ?_
          simp only [Nat.reduceAdd, Act.put, List.setIfInBounds_toArray, List.set_cons_succ, List.set_cons_zero]
          repeat (refine det_p _ rfl rfl (fun w => by go_simp; with_reducible rfl) ?_; simp only [Nat.reduceAdd, Act.put, List.setIfInBounds_toArray, List.set_cons_succ, List.set_cons_zero])
          refine det_p _ rfl rfl (fun w => run_index_at 23 _ _ rfl 36 7 g 0 len c (k) _ rfl rfl (by first | rfl | omega | exact wrap_in _ (by omega) (by omega) | (rw [wrap_in _ (by omega) (by omega)]; omega)) (by omega) Tryz.underlying23 tsk_size) ?_
          simp only [Nat.reduceAdd, Act.put, List.setIfInBounds_toArray, List.set_cons_succ, List.set_cons_zero]
          refine det_w undef rfl (fun L w hV hi hd hn => by
            have h2 := hn 17 (by kernel_rfl)
            simp only [List.map, hi, h2] at hV
            refine wp_store_agg 36 _ _ rfl g ((k) * 7) 36 _ (Tsk.row (gt cur (k - 1))) (by show Value.pointer _ = _; rw [Nat.zero_add]) rfl hV.2 (RB.fit (g := g) (by rw [HC.out]; omega) _) tsk_size (tsk_one _) ?_
            intro w1 hb1 ho1
            rw [flat_splice Tsk.row 7 tsk_len _ _ _ _ (by rw [HC.out]; omega)] at hb1
            simp only [List.map, h2]
            exact ⟨(by trivial), hV.1.tr (Srt.of_only ho1), hb1⟩) ?_
          simp only [Nat.reduceAdd, Act.put, List.setIfInBounds_toArray, List.set_cons_succ, List.set_cons_zero]
          refine det_p _ rfl rfl (fun w => run_index_at 23 _ _ rfl 36 7 g 0 len c (k - 1) _ rfl rfl (by first | rfl | omega | exact wrap_in _ (by omega) (by omega) | (rw [wrap_in _ (by omega) (by omega)]; omega)) (by omega) Tryz.underlying23 tsk_size) ?_
          simp only [Nat.reduceAdd, Act.put, List.setIfInBounds_toArray, List.set_cons_succ, List.set_cons_zero]
          refine det_w undef rfl (fun L w hV hi hd hn => by
            have h2 := hd 15 (by kernel_rfl)
            simp only [List.map, hi, h2] at hV
            refine wp_store_agg 36 _ _ rfl g ((k - 1) * 7) 36 _ (Tsk.row (gt cur (k))) (by show Value.pointer _ = _; rw [Nat.zero_add]) rfl hV.2 (RB.fit (g := g) (by rw [List.length_set, HC.out]; omega) _) tsk_size (tsk_one _) ?_
            intro w1 hb1 ho1
            rw [flat_splice Tsk.row 7 tsk_len _ _ _ _ (by rw [List.length_set, HC.out]; omega)] at hb1
            simp only [List.map, h2]
            exact ⟨(by trivial), hV.1.tr (Srt.of_only ho1), hb1⟩) ?_
          simp only [Nat.reduceAdd, Act.put, List.setIfInBounds_toArray, List.set_cons_succ, List.set_cons_zero]
          intro w1 hV
          simp only [List.map] at hV
          have hS1 := hV.1
          have HB1 := Lib.hid hV.2
          clear hV
          go_wp2
          go_roundw
          case rel => exact ⟨k - 1, _, by omega, congrArg (Value.int .i64) (by omega), (swp_len _ _ _).trans HC.out, HB1.out, hS1, by rw [HR.out, dnW_go hk]⟩
          case measure => simp [intOf]; omega
        · go_wp2
          refine bodyPost_ret (results_none rfl _ _ _) rfl ?_
          refine ⟨rfl, ?_, hS⟩
          rw [HI.out, HR.out, dnW_end hk]
          exact HB.out
end Go.Proofs.YthhmbijblpjfpaaGreat
