/- task.own: a task in memory of its own, its floats and tags by Canon. -/
import Derived.Test.YthhmbijblpjfpaaGreatFind
import Derived.Test.YthhmbijblpjfpaaGreatTagFn
namespace Go.Proofs.YthhmbijblpjfpaaGreat
open Go.RowKit

/-- the end of a function whose one result lies in a block -/
theorem bodyPost_cell1 {P : Program} {fn : Func} {p : Tmp} {ty : TypeId} {R : Ending → World → Prop} {a : Act} {w : World} {g : Nat} {T : TypeId} {cs : List Value} {d : TypeDesc}
    (hres : fn.results = #[.cell p ty]) (hp : a.tmps.getD p undef = .pointer (some ⟨g, 0, none⟩)) (hb : Blk w g T cs)
    (hu : P.underlying ty = some d) (hd : (match d with | .struct _ | .array _ _ => true | _ => false) = true) (hi : (P.info? ty).map (·.size) = some cs.length) (hdf : a.defers = [])
    (hR : R (.returned (.agg cs.toArray)) w) : bodyPost P fn R .ret a w := by
  refine bodyPost_ret ?_ hdf hR
  have hload := run_loadVar_cells (P := P) w ⟨g, 0, none⟩ ty cs d hb.cellsAt0 hu hd hi
  have hp' := hp
  rw [Array.getD_eq_getD_getElem?] at hp'
  simp [results, hres, asAddr, hp', Result.andThen_ok, hload]

set_option maxRecDepth 100000 in
theorem enters_canon (args : Array Value) (w : World) : Sem.run Tryz.prog (callFunc 107 args) w = .ok (.enter 107 args) w := by
  simp only [callFunc, go_sem, Tryz.func107]
  rfl

theorem sortTags_len (l : List ByteArray) : (sortTags l).length = l.length := by rw [sortTags_eq]; simp
theorem sortTags_nil : sortTags [] = [] := List.eq_nil_of_length_eq_zero (by rw [sortTags_len]; rfl)
theorem compTags_nil : compTags [] = [] := by rw [compTags_eq]; rfl
theorem compact_none (c : Nat) (w : World) : Calls Tryz.prog 137 #[.slice none 0 c] w fun e w' => e = .returned (.slice none 0 c) ∧ w = w' := by
  go_enter Tryz.func137, Tryz.ntmps137
  go_wp2
  go_ret
  exact ⟨rfl, rfl⟩
theorem sortTags_own {base : Nat} {v : Value} (l : List ByteArray) (w : World) (h : w.ownsRow base 9 1 v l.length (l.map Value.string)) (hn : l.length ≤ 1000) :
    Calls Tryz.prog 136 #[v] w fun e w' => e = .returned (.tuple #[]) ∧ w'.ownsRow base 9 1 v (sortTags l).length ((sortTags l).map Value.string) ∧ w.grownBy w' v.ownBlock := by
  rcases own_form h with ⟨rfl, hz, _⟩ | ⟨g, cap, rfl, _, _, _, rest, hb⟩
  · have hl : l = [] := List.eq_nil_of_length_eq_zero hz
    subst hl
    refine (sortTags_none 0 w).mono ?_
    rintro e w' ⟨rfl, rfl⟩
    rw [sortTags_nil]
    exact ⟨rfl, World.ownsRow_nil _ _ _ _, rfl, rfl, rfl, Nat.le_refl _, fun _ _ _ => rfl⟩
  · refine (sortTags_any g cap l rest w hb (by omega)).mono ?_
    rintro e w' ⟨rfl, h1, h2⟩
    refine ⟨rfl, ?_, h2⟩
    rw [sortTags_len]
    exact own_of_blk h hb h1 (by simp [sortTags_len])
theorem own_cut {w w' : World} {base : Nat} {e : TypeId} {g n m cap : Nat} {xs ys rest rest' : List Value} (h : w.ownsRow base e 1 (.slice (some ⟨g, 0, none⟩) n cap) n xs) (hb0 : Blk w g e (xs ++ rest)) (hb : Blk w' g e (ys ++ rest')) (hl : ys.length = m) (hm : m ≤ n)
    (hs : (ys ++ rest').length = (xs ++ rest).length) : w'.ownsRow base e 1 (.slice (some ⟨g, 0, none⟩) m cap) m ys := by
  rcases h.2 with ⟨hv, _⟩ | ⟨g', cap', cur, hv, hbg, hg, hnc, hcm, hsz, ht⟩
  · cases hv
  · injection hv with h1 _ h3
    injection h1 with h1
    injection h1 with h1
    subst h1 h3
    refine ⟨by omega, .inr ⟨g, cap, _, rfl, hbg, hb, by omega, hcm, ?_, ?_⟩⟩
    · have : cur.toList = xs ++ rest := by
        have h9 := hg.symm.trans hb0
        injection h9 with h9
        injection h9 with h9
        rw [h9]
      have h10 : cur.size = (xs ++ rest).length := by rw [← this]; simp
      rw [← hsz, h10, ← hs]
      simp
    · rw [Nat.mul_one, ← hl]
      simp
theorem compTags_own {base : Nat} {v : Value} (l : List ByteArray) (w : World) (h : w.ownsRow base 9 1 v l.length (l.map Value.string)) (hn : l.length ≤ 1000) :
    Calls Tryz.prog 137 #[v] w fun e w' => ∃ v', e = .returned v' ∧ w'.ownsRow base 9 1 v' (compTags l).length ((compTags l).map Value.string) ∧ w.grownBy w' v.ownBlock ∧ v'.ownBlock = v.ownBlock ∧ (compTags l).length ≤ l.length := by
  rcases own_form h with ⟨rfl, hz, _⟩ | ⟨g, cap, rfl, _, _, hc, rest, hb⟩
  · have hl : l = [] := List.eq_nil_of_length_eq_zero hz
    subst hl
    refine (compact_none 0 w).mono ?_
    rintro e w' ⟨rfl, rfl⟩
    rw [compTags_nil]
    exact ⟨_, rfl, World.ownsRow_nil _ _ _ _, ⟨rfl, rfl, rfl, Nat.le_refl _, fun _ _ _ => rfl⟩, rfl, Nat.le_refl _⟩
  · refine (compTags_any g cap l rest w hb (by omega) hc).mono ?_
    rintro e w' ⟨rfl, h0, h1, h2⟩
    exact ⟨_, rfl, own_cut h hb h1 (by simp) h0 (by simp; omega), h2, rfl, h0⟩
theorem own_base {w : World} {b b' : Nat} {e : TypeId} {k : Nat} {v : Value} {n : Nat} {xs : List Value} (h : w.ownsRow b e k v n xs) (hb : b' ≤ b) : w.ownsRow b' e k v n xs := by
  refine ⟨h.1, ?_⟩
  rcases h.2 with h1 | ⟨g, cap, cur, h1, h2, h3⟩
  · exact .inl h1
  · exact .inr ⟨g, cap, cur, h1, by omega, h3⟩
theorem own_only {w w' : World} {b g : Nat} {e : TypeId} {k : Nat} {v : Value} {n : Nat} {xs : List Value} (h : w.ownsRow b e k v n xs) (ho : Only g w w') (hg : g < b) : w'.ownsRow b e k v n xs :=
  h.kept (Srt.of_only ho) (.inr fun e => own_ne h hg e.symm)
noncomputable def canTags : (List ByteArray) → (List ByteArray) := Classical.choose (laid fun (l : List ByteArray) => (compTags (sortTags l) : List ByteArray))
theorem canTags_eq (l : List ByteArray) : canTags l = (compTags (sortTags l) : List ByteArray) := laid1 _ l


noncomputable def canT : Tsk → Tsk := Classical.choose (laid fun (x : Tsk) => ({ x with rank := fCanon x.rank, est := fCanon x.est, tags := canTags x.tags } : Tsk))
theorem canT_eq (x : Tsk) : canT x = ({ x with rank := fCanon x.rank, est := fCanon x.est, tags := canTags x.tags } : Tsk) := laid1 _ x


set_option maxRecDepth 100000 in
theorem own_any (x : Tsk) (w : World) (hx : x.ok w) (hn : x.tags.length ≤ 1000) :
    Calls Tryz.prog 97 #[x.val] w fun e w' => ∃ t : Tsk, e = .returned t.val ∧ t.core = (canT x).core ∧ t.tags.length ≤ 1000 ∧ w'.ownsRow w.heap.size 9 1 t.tagv t.tags.length (t.tags.map Value.string) ∧ Ext w w' := by
  have HCT := Lib.hid (canT_eq x)
  have HCG := Lib.hid (canTags_eq x.tags)
  have hsf := store_float
  obtain ⟨r, hr⟩ : ∃ k, fCanon x.rank = k := ⟨_, rfl⟩
  obtain ⟨q, hq⟩ : ∃ k, fCanon x.est = k := ⟨_, rfl⟩
  have HR := Lib.hid hr
  have HQ := Lib.hid hq
  clear hr hq
  go_enter Tryz.func97, Tryz.ntmps97
  go_wp2_with fail
  obtain ⟨W, hW⟩ : ∃ W, W = (w.alloc (.cells (Tsk.row x).toArray 36)).alloc (.cells (Tsk.row noTsk).toArray 36) := ⟨_, rfl⟩
  have HBx := Lib.hid (show Blk W w.heap.size 36 (Tsk.row x) by rw [hW]; exact (Blk.new w _ _).al _)
  have HBz := Lib.hid (show Blk W (w.heap.size + 1) 36 (Tsk.row noTsk) by rw [hW]; exact Blk.new1 w _ _ _)
  have hWe : Ext w W := by rw [hW]; exact (Ext.rfl'.al _).al _
  change Code.wp _ _ _ _ ((w.alloc (.cells (Tsk.row x).toArray 36)).alloc (.cells (Tsk.row noTsk).toArray 36))
  rw [← hW]
  clear hW
  refine wp_region_dets (by kernel_rfl) [7, 9] (fun B w' => Only w.heap.size W w' ∧ match B with | [false, false] => Blk w' w.heap.size 36 (Tsk.row x) | [true, false] => Blk w' w.heap.size 36 (Tsk.row { x with rank := r }) | [false, true] => Blk w' w.heap.size 36 (Tsk.row { x with est := q }) | _ => Blk w' w.heap.size 36 (Tsk.row { x with rank := r, est := q })) (by kernel_rfl) rfl ⟨⟨rfl, rfl, rfl, rfl, fun _ _ => rfl⟩, HBx.out⟩ ?_
  repeat (refine det_p _ rfl rfl (fun w => by go_simp; with_reducible rfl) ?_; simp only [Nat.reduceAdd, Act.put, List.setIfInBounds_toArray, List.set_cons_succ, List.set_cons_zero])
  refine det_r (.float .f64 x.rank) rfl rfl (fun L w' hV hn => by
    have h7 := hn 7 (by kernel_rfl)
    have h9 := hn 9 (by kernel_rfl)
    simp only [List.map, h7, h9] at hV
    exact run_load_cell 33 _ rfl ⟨w.heap.size, 4, none⟩ _ rfl _ ((hV.2.cell 4).trans rfl) Tryz.underlying33 rfl) ?_
  simp only [Nat.reduceAdd, Act.put, List.setIfInBounds_toArray, List.set_cons_succ, List.set_cons_zero]
  refine det_c (.float .f64 r) rfl rfl _ _ _ rfl 107 #[] #[.float .f64 x.rank] rfl (by simp only [List.map_toArray, List.map_cons, List.map_nil]; rfl) enters_canon (fun L w' hV => (canon_any x.rank w').mono fun e w'' he => ⟨he.1.trans (by rw [HR.out]), he.2 ▸ hV⟩) ?_
  simp only [Nat.reduceAdd, Act.put, List.setIfInBounds_toArray, List.set_cons_succ, List.set_cons_zero]
  repeat (refine det_p _ rfl rfl (fun w => by go_simp; with_reducible rfl) ?_; simp only [Nat.reduceAdd, Act.put, List.setIfInBounds_toArray, List.set_cons_succ, List.set_cons_zero])
  refine det_r (.float .f64 x.est) rfl rfl (fun L w' hV hn => by
    have h7 := hn 7 (by kernel_rfl)
    have h9 := hn 9 (by kernel_rfl)
    simp only [List.map, h7, h9] at hV
    exact run_load_cell 33 _ rfl ⟨w.heap.size, 5, none⟩ _ rfl _ ((hV.2.cell 5).trans rfl) Tryz.underlying33 rfl) ?_
  simp only [Nat.reduceAdd, Act.put, List.setIfInBounds_toArray, List.set_cons_succ, List.set_cons_zero]
  refine det_c (.float .f64 q) rfl rfl _ _ _ rfl 107 #[] #[.float .f64 x.est] rfl (by simp only [List.map_toArray, List.map_cons, List.map_nil]; rfl) enters_canon (fun L w' hV => (canon_any x.est w').mono fun e w'' he => ⟨he.1.trans (by rw [HQ.out]), he.2 ▸ hV⟩) ?_
  simp only [Nat.reduceAdd, Act.put, List.setIfInBounds_toArray, List.set_cons_succ, List.set_cons_zero]
  repeat (refine det_p _ rfl rfl (fun w => by go_simp; with_reducible rfl) ?_; simp only [Nat.reduceAdd, Act.put, List.setIfInBounds_toArray, List.set_cons_succ, List.set_cons_zero])
  refine det_w undef rfl (fun L w' hV hi hd hn => by
    have h9 := hn 9 (by kernel_rfl)
    simp only [List.map, hi, h9] at hV
    refine wp_store_cell 33 _ _ rfl w.heap.size 4 36 (Tsk.row x) (.float .f64 r) rfl rfl rfl hV.2 (by simp) (by kernel_rfl) rfl ?_
    intro w1 hb1 ho1
    simp only [List.map, h9]
    exact ⟨trivial, hV.1.trans ho1, hb1⟩) ?_
  simp only [Nat.reduceAdd, Act.put, List.setIfInBounds_toArray, List.set_cons_succ, List.set_cons_zero]
  repeat (refine det_p _ rfl rfl (fun w => by go_simp; with_reducible rfl) ?_; simp only [Nat.reduceAdd, Act.put, List.setIfInBounds_toArray, List.set_cons_succ, List.set_cons_zero])
  refine det_w undef rfl (fun L w' hV hi hd hn => by
    have h7 := hd 7 (by kernel_rfl)
    simp only [List.map, hi, h7] at hV
    refine wp_store_cell 33 _ _ rfl w.heap.size 5 36 (Tsk.row { x with rank := r }) (.float .f64 q) rfl rfl rfl hV.2 (by simp) (by kernel_rfl) rfl ?_
    intro w1 hb1 ho1
    simp only [List.map, h7]
    exact ⟨trivial, hV.1.trans ho1, hb1⟩) ?_
  simp only [Nat.reduceAdd, Act.put, List.setIfInBounds_toArray, List.set_cons_succ, List.set_cons_zero]
  intro W1 hV
  have hO1 := hV.1
  have HB1 := Lib.hid (show Blk W1 w.heap.size 36 (Tsk.row { x with rank := r, est := q }) from hV.2)
  clear hV
  have HX := Lib.hid hx
  have HZ1 := Lib.hid (HBz.out.only hO1 (by omega))
  have e1 : Ext w W1 := hWe.only (Nat.le_refl _) hO1
  have hz0 : w.heap.size + 1 < W1.heap.size := by have := HZ1.out.lt; omega
  have hc6 : W1.cell? ⟨w.heap.size, 6, none⟩ = some (.slice x.tA x.tags.length x.tC) := (HB1.out.cell 6).trans rfl
  clear hx hO1 HBx HBz hWe
  go_wp2_with (first
    | (go_at_call 60; refine (clone_any x.tA x.tC x.tags _ (by omega) (by exact e1.rows HX.out.rows)).mono ?_; rintro e w2 ⟨v2, rfl, hb2, hown2, _⟩; have HB2 := Lib.hid (HB1.out.ext hb2); have HZ2 := Lib.hid (HZ1.out.ext hb2); have HO2 := Lib.hid hown2; clear hown2)
    | (go_at_call 136; refine (sortTags_own x.tags _ HO2.out hn).mono ?_; rintro e w3 ⟨rfl, hown3, hg3⟩; have HB3 := Lib.hid (HB2.out.grown hg3 (own_ne HO2.out (by omega))); have HZ3 := Lib.hid (HZ2.out.grown hg3 (own_ne HO2.out (by omega))); have HO3 := Lib.hid hown3; clear hown3)
    | (go_at_call 137; refine (compTags_own (sortTags x.tags) _ HO3.out (by rw [sortTags_len]; exact hn)).mono ?_; rintro e w4 ⟨v4, rfl, hown4, hg4, hb4, hc4⟩; obtain ⟨A4, c4, rfl⟩ := own_shape hown4; have HB4 := Lib.hid (HB3.out.grown hg4 (own_ne HO3.out (by omega))); have HZ4 := Lib.hid (HZ3.out.grown hg4 (own_ne HO3.out (by omega))); have HO4 := Lib.hid hown4; clear hown4)
    | (refine wpList_store_cell rfl 34 (.tmp 19) (.tmp 18) rfl w.heap.size 6 36 _ (.slice A4 (compTags (sortTags x.tags)).length c4) rfl rfl rfl HB4.out (by simp) strs_size rfl ?_; intro w5 hb5 ho5; have HB5 := Lib.hid hb5; have HZ5 := Lib.hid (HZ4.out.only ho5 (by omega)); clear hb5)
    | (refine wpList_load_cells rfl 36 (.tmp 1) rfl ⟨w.heap.size, 0, none⟩ (Tsk.row { x with rank := r, est := q, tags := compTags (sortTags x.tags), tA := A4, tC := c4 }) rfl _ HB5.out.cellsAt0 Tryz.underlying36 rfl tsk_size ?_)
    | (refine wpList_store_agg rfl 36 (.tmp 2) (.tmp 20) rfl _ 0 36 _ (Tsk.row { x with rank := r, est := q, tags := compTags (sortTags x.tags), tA := A4, tC := c4 }) rfl rfl HZ5.out (by simp) tsk_size (by simp [Value.oneCell']) ?_; intro w6 hb6 ho6))
  refine bodyPost_cell1 (cs := Tsk.row { x with rank := r, est := q, tags := compTags (sortTags x.tags), tA := A4, tC := c4 }) rfl rfl (by simpa [splice] using hb6) Tryz.underlying36 rfl tsk_size rfl ⟨{ x with rank := r, est := q, tags := compTags (sortTags x.tags), tA := A4, tC := c4 }, rfl, ?_, ?_, ?_, ?_⟩
  · rw [HCT.out, HCG.out, HR.out, HQ.out]
    rfl
  · have := sortTags_len x.tags
    show (compTags (sortTags x.tags)).length ≤ 1000
    omega
  · exact own_base (own_only (own_only HO4.out ho5 (by omega)) ho6 (by omega)) (by omega)
  · have e2 : Ext w w2 := e1.tr hb2
    have e3 : Ext w w3 := Below.grown e2 hg3 e2.size (fun k hk => by have := (own_lt HO2.out hk).1; omega)
    have e4 : Ext w w4 := Below.grown e3 hg4 e3.size (fun k hk => by have := (own_lt HO3.out hk).1; omega)
    exact (e4.only (Nat.le_refl _) ho5).only (by omega) ho6
end Go.Proofs.YthhmbijblpjfpaaGreat
