/- The walks of the stable sort: exchanges, insertion. -/
import Derived.Test.YthhmbijblpjfpaaGreatSortDef
namespace Go.Proofs.YthhmbijblpjfpaaGreat
open Go.RowKit

theorem tsk_one (x : Tsk) : ∀ u ∈ Tsk.row x, u.oneCell' = true := by intro u hu; simp [Tsk.row] at hu; rcases hu with rfl | rfl | rfl | rfl | rfl | rfl | rfl <;> rfl
theorem swR_step {a b n k : Nat} {l : List Tsk} (h : k < n) : swR a b n k l = swR a b n (k + 1) (swp l (a + k) (b + k)) := by rw [swR, if_pos h]
theorem swR_end {a b n k : Nat} {l : List Tsk} (h : ¬ k < n) : swR a b n k l = l := by rw [swR, if_neg h]

set_option maxRecDepth 100000 in
theorem swapRange_any (g c a b n : Nat) (F : Value) (l : List Tsk) (rest : List Value) (w : World) (hB : RB w g l rest) (ha : a + n ≤ l.length) (hb : b + n ≤ l.length) (hl : l.length ≤ 1000000) :
    Calls Tryz.prog 202 #[.slice (some ⟨g, 0, none⟩) l.length c, .int .i64 a, .int .i64 b, .int .i64 n, F] w
      fun e w' => e = .returned (.tuple #[]) ∧ RB w' g (swR a b n 0 l) rest ∧ Srt g w w' := by
  go_enter Tryz.func202, Tryz.ntmps202
  go_wp2_with fail
  go_loopw [10] (fun i wr => ∃ (k : Nat) (cur : List Tsk), k ≤ n ∧ i = .int .i64 k ∧ cur.length = l.length ∧ RB wr g cur rest ∧ Srt g w wr ∧ swR a b n 0 l = swR a b n k cur) (fun i _ => n - (intOf i).toNat)
  case atStart => exact ⟨0, l, Nat.zero_le _, rfl, rfl, hB, Srt.rfl', rfl⟩
  case round =>
    clear hB
    obtain ⟨k, cur, hk, rfl, hcl, hB, hS, hR⟩ := hrel
    have HC := Lib.hid hcl
    have HR := Lib.hid hR
    have HB := Lib.hid hB
    clear hcl hR hB
    by_cases hlt : k < n
    · go_wp2_with fail
      refine wp_region_dets (by kernel_rfl) [21, 23] (fun B w' => Srt g w w' ∧ match B with | [false, false] => RB w' g cur rest | [true, false] => RB w' g (cur.set (a + k) (gt cur (b + k))) rest | _ => RB w' g (swp cur (a + k) (b + k)) rest) (by kernel_rfl) rfl ⟨hS.dr, HB.out⟩ ?_
      repeat (refine det_p _ rfl rfl (fun w => by go_simp; with_reducible rfl) ?_; simp only [Nat.reduceAdd, Act.put, List.setIfInBounds_toArray, List.set_cons_succ, List.set_cons_zero])
      refine det_p _ rfl rfl (fun w => run_index_at 23 _ _ rfl 36 7 g 0 l.length c (b + k) _ rfl rfl (wrap_in _ (by omega) (by omega)) (by omega) Tryz.underlying23 tsk_size) ?_
      simp only [Nat.reduceAdd, Act.put, List.setIfInBounds_toArray, List.set_cons_succ, List.set_cons_zero]
      refine det_r (.agg (Tsk.row (gt cur (b + k))).toArray) rfl rfl (fun L w hV hn => by
        have h1 := hn 21 (by kernel_rfl)
        have h2 := hn 23 (by kernel_rfl)
        simp only [List.map, h1, h2] at hV
        exact run_load_cells 36 _ rfl ⟨g, (b + k) * 7, none⟩ (Tsk.row (gt cur (b + k))) (by show Value.pointer _ = _; rw [Nat.zero_add]) _ (hV.2.at_ (by rw [HC.out]; omega)) Tryz.underlying36 rfl tsk_size) ?_
      simp only [Nat.reduceAdd, Act.put, List.setIfInBounds_toArray, List.set_cons_succ, List.set_cons_zero]
      repeat (refine det_p _ rfl rfl (fun w => by go_simp; with_reducible rfl) ?_; simp only [Nat.reduceAdd, Act.put, List.setIfInBounds_toArray, List.set_cons_succ, List.set_cons_zero])
      refine det_p _ rfl rfl (fun w => run_index_at 23 _ _ rfl 36 7 g 0 l.length c (a + k) _ rfl rfl (wrap_in _ (by omega) (by omega)) (by omega) Tryz.underlying23 tsk_size) ?_
      simp only [Nat.reduceAdd, Act.put, List.setIfInBounds_toArray, List.set_cons_succ, List.set_cons_zero]
      refine det_r (.agg (Tsk.row (gt cur (a + k))).toArray) rfl rfl (fun L w hV hn => by
        have h1 := hn 21 (by kernel_rfl)
        have h2 := hn 23 (by kernel_rfl)
        simp only [List.map, h1, h2] at hV
        exact run_load_cells 36 _ rfl ⟨g, (a + k) * 7, none⟩ (Tsk.row (gt cur (a + k))) (by show Value.pointer _ = _; rw [Nat.zero_add]) _ (hV.2.at_ (by rw [HC.out]; omega)) Tryz.underlying36 rfl tsk_size) ?_
      simp only [Nat.reduceAdd, Act.put, List.setIfInBounds_toArray, List.set_cons_succ, List.set_cons_zero]
      repeat (refine det_p _ rfl rfl (fun w => by go_simp; with_reducible rfl) ?_; simp only [Nat.reduceAdd, Act.put, List.setIfInBounds_toArray, List.set_cons_succ, List.set_cons_zero])
      refine det_p _ rfl rfl (fun w => run_index_at 23 _ _ rfl 36 7 g 0 l.length c (a + k) _ rfl rfl (wrap_in _ (by omega) (by omega)) (by omega) Tryz.underlying23 tsk_size) ?_
      simp only [Nat.reduceAdd, Act.put, List.setIfInBounds_toArray, List.set_cons_succ, List.set_cons_zero]
      refine det_w undef rfl (fun L w hV hi hd hn => by
        have h2 := hn 23 (by kernel_rfl)
        simp only [List.map, hi, h2] at hV
        refine wp_store_agg 36 _ _ rfl g ((a + k) * 7) 36 _ (Tsk.row (gt cur (b + k))) (by show Value.pointer _ = _; rw [Nat.zero_add]) rfl hV.2 (RB.fit (g := g) (by rw [HC.out]; omega) _) tsk_size (tsk_one _) ?_
        intro w1 hb1 ho1
        rw [flat_splice Tsk.row 7 tsk_len _ _ _ _ (by rw [HC.out]; omega)] at hb1
        simp only [List.map, h2]
        exact ⟨(by trivial), hV.1.tr (Srt.of_only ho1), hb1⟩) ?_
      simp only [Nat.reduceAdd, Act.put, List.setIfInBounds_toArray, List.set_cons_succ, List.set_cons_zero]
      refine det_p _ rfl rfl (fun w => run_index_at 23 _ _ rfl 36 7 g 0 l.length c (b + k) _ rfl rfl (wrap_in _ (by omega) (by omega)) (by omega) Tryz.underlying23 tsk_size) ?_
      simp only [Nat.reduceAdd, Act.put, List.setIfInBounds_toArray, List.set_cons_succ, List.set_cons_zero]
      refine det_w undef rfl (fun L w hV hi hd hn => by
        have h1 := hd 21 (by kernel_rfl)
        simp only [List.map, hi, h1] at hV
        refine wp_store_agg 36 _ _ rfl g ((b + k) * 7) 36 _ (Tsk.row (gt cur (a + k))) (by show Value.pointer _ = _; rw [Nat.zero_add]) rfl hV.2 (RB.fit (g := g) (by rw [List.length_set, HC.out]; omega) _) tsk_size (tsk_one _) ?_
        intro w1 hb1 ho1
        rw [flat_splice Tsk.row 7 tsk_len _ _ _ _ (by rw [List.length_set, HC.out]; omega)] at hb1
        simp only [List.map, h1]
        exact ⟨(by trivial), hV.1.tr (Srt.of_only ho1), hb1⟩) ?_
      simp only [Nat.reduceAdd, Act.put, List.setIfInBounds_toArray, List.set_cons_succ, List.set_cons_zero]
      intro w1 hV
      simp only [List.map] at hV
      have hS1 := hV.1
      have HB1 := Lib.hid hV.2
      clear hV
      go_wp2
      go_roundw
      case rel => exact ⟨k + 1, _, by omega, by go_num, (swp_len _ _ _).trans HC.out, HB1.out, hS1, by rw [HR.out, swR_step hlt]⟩
      case measure => simp [intOf]; omega
    · go_wp2
      go_end0
      refine ⟨rfl, ?_, hS⟩
      rw [HR.out, swR_end hlt]
      exact HB.out
theorem swapRange_int (g c a b n : Nat) (va vb vn : Int) (F : Value) (l : List Tsk) (len : Nat) (rest : List Value) (w : World) (hva : va = (a : Int)) (hvb : vb = (b : Int)) (hvn : vn = (n : Int)) (hlen : l.length = len) (hB : RB w g l rest)
    (ha : a + n ≤ len) (hb : b + n ≤ len) (hl : len ≤ 1000000) :
    Calls Tryz.prog 202 #[.slice (some ⟨g, 0, none⟩) len c, .int .i64 va, .int .i64 vb, .int .i64 vn, F] w
      fun e w' => e = .returned (.tuple #[]) ∧ RB w' g (swR a b n 0 l) rest ∧ Srt g w w' := by
  subst hva hvb hvn hlen
  exact swapRange_any g c a b n F l rest w hB ha hb hl
theorem swR_len (a b n : Nat) : ∀ (d k : Nat) (l : List Tsk), n - k = d → (swR a b n k l).length = l.length
  | 0, k, l, h => by rw [swR_end (by omega)]
  | d + 1, k, l, h => by rw [swR_step (by omega), swR_len a b n d (k + 1) _ (by omega), swp_len]
theorem rotL_eq {m i : Nat} {l : List Tsk} (hi : 0 < i) : rotL m i i l = swR (m - i) m i 0 l := by rw [rotL, dif_neg (by omega), if_pos rfl]
theorem rotL_gt {m i j : Nat} {l : List Tsk} (hi : 0 < i) (hj : 0 < j) (h : j < i) : rotL m i j l = rotL m (i - j) j (swR (m - i) m j 0 l) := by
  rw [rotL, dif_neg (by omega), if_neg (by omega), if_pos h]
theorem rotL_lt {m i j : Nat} {l : List Tsk} (hi : 0 < i) (hj : 0 < j) (h : i < j) : rotL m i j l = rotL m i (j - i) (swR (m - i) (m + j - i) i 0 l) := by
  rw [rotL, dif_neg (by omega), if_neg (by omega), if_neg (by omega)]

set_option maxRecDepth 100000 in
theorem rotate_any (g c a m b : Nat) (va vm vb : Int) (F : Value) (l : List Tsk) (len : Nat) (rest : List Value) (w : World) (hva : va = (a : Int)) (hvm : vm = (m : Int)) (hvb : vb = (b : Int)) (hlen : l.length = len) (hB : RB w g l rest)
    (ham : a < m) (hmb : m < b) (hb : b ≤ len) (hl : len ≤ 1000000) :
    Calls Tryz.prog 177 #[.slice (some ⟨g, 0, none⟩) len c, .int .i64 va, .int .i64 vm, .int .i64 vb, F] w
      fun e w' => e = .returned (.tuple #[]) ∧ RB w' g (rot a m b l) rest ∧ Srt g w w' := by
  subst hva hvm hvb
  have HL := Lib.hid hlen
  have HB := Lib.hid hB
  clear hlen hB
  go_enter Tryz.func177, Tryz.ntmps177
  go_wp2_with fail
  go_loopw [10, 11] (fun vi vj wr => ∃ (i j : Nat) (cur : List Tsk), 0 < i ∧ 0 < j ∧ i ≤ m ∧ m + j ≤ len ∧ vi = .int .i64 i ∧ vj = .int .i64 j ∧ cur.length = len ∧ RB wr g cur rest ∧ Srt g w wr ∧ rot a m b l = rotL m i j cur) (fun vi vj _ => (intOf vi).toNat + (intOf vj).toNat)
  case atStart => exact ⟨m - a, b - m, l, by omega, by omega, by omega, by omega, congrArg (Value.int .i64) (by omega), congrArg (Value.int .i64) (by omega), HL.out, HB.out, Srt.rfl', rfl⟩
  case round =>
    obtain ⟨i, j, cur, hi, hj, him, hjl, rfl, rfl, hcl, hB, hS, hR⟩ := hrel
    have HC := Lib.hid hcl
    have HR := Lib.hid hR
    have HB := Lib.hid hB
    clear hcl hR hB
    rcases Nat.lt_trichotomy i j with hlt | heq | hgt
    · go_wp2_with (go_at_call 202; refine (swapRange_int g c (m - i) (m + j - i) i _ _ _ F cur len rest _ (by omega) (by omega) (by omega) HC.out HB.out (by omega) (by omega) (by omega)).mono ?_; rintro e w1 ⟨rfl, hb1, hs1⟩)
      go_roundw
      case rel => exact ⟨i, j - i, _, hi, by omega, him, by omega, rfl, congrArg (Value.int .i64) (by omega), (swR_len _ _ _ _ 0 _ rfl).trans HC.out, hb1, hS.tr hs1, by rw [HR.out, rotL_lt hi hj hlt]⟩
      case measure => simp [intOf]; omega
    · subst heq
      go_wp2_with (go_at_call 202; refine (swapRange_int g c (m - i) m i _ _ _ F cur len rest _ (by omega) (by omega) (by omega) HC.out HB.out (by omega) (by omega) (by omega)).mono ?_; rintro e w1 ⟨rfl, hb1, hs1⟩)
      go_end0
      refine ⟨rfl, ?_, hS.tr hs1⟩
      rw [HR.out, rotL_eq hi]
      exact hb1
    · go_wp2_with (go_at_call 202; refine (swapRange_int g c (m - i) m j _ _ _ F cur len rest _ (by omega) (by omega) (by omega) HC.out HB.out (by omega) (by omega) (by omega)).mono ?_; rintro e w1 ⟨rfl, hb1, hs1⟩)
      go_roundw
      case rel => exact ⟨i - j, j, _, by omega, hj, by omega, by omega, congrArg (Value.int .i64) (by omega), rfl, (swR_len _ _ _ _ 0 _ rfl).trans HC.out, hb1, hS.tr hs1, by rw [HR.out, rotL_gt hi hj hgt]⟩
      case measure => simp [intOf]; omega
end Go.Proofs.YthhmbijblpjfpaaGreat
