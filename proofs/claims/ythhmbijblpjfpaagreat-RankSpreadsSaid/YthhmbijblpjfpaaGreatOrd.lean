/- How tasks are held against each other. -/
import Derived.Test.YthhmbijblpjfpaaGreatOwn
namespace Go.Proofs.YthhmbijblpjfpaaGreat
open Go.RowKit

section
variable {P : Program}
theorem run_load_cell {o : Oper} {A : Act} {w : World} (ty : TypeId) (x : Operand) (ho : o.op = .load ty x) (ad : Addr) (v : Value) (hx : A.eval x = .pointer (some ad)) (d : TypeDesc) (hc : w.cell? ad = some v)
    (hu : P.underlying ty = some d) (hd : (match d with | .struct _ | .array _ _ => true | _ => false) = false) : (execOp A.eval o).run P w = .ok (.value v) w := by
  have hagg : (isAgg ty).run P w = .ok false w := by
    unfold isAgg
    rw [Sem.run_bind, run_underlying hu w]
    cases d <;> simp_all
  unfold execOp
  simp only [ho, hx, Instr.loadAt, Instr.sureAddr, Sem.run_bind, Sem.run_pure, Result.andThen_ok, loadVar, hagg]
  simp [hc]
theorem det_c {ops : Array Oper} {S : List Nat} {V : List Bool → World → Prop} {i : Nat} {o : Oper} {rest : List Oper} {A : Act} {fin : Act → Prop} (v : Value) (hg : Region.wanted o (yielded ops A.tmps) = true) (hS : S.contains i = false)
    (x : Operand) (args : Array Operand) (tys : Array TypeId) (ho : o.op = .call { callee := .value x, args := args, argTypes := tys }) (F : FuncId) (caps vals : Array Value)
    (hx : A.eval x = .func (.func F) #[] caps) (hargs : args.map A.eval = vals) (hF : ∀ args w, Sem.run P (callFunc F args) w = .ok (.enter F args) w)
    (hc : ∀ (L : Nat → Bool) w, V (S.map L) w → Calls P F (vals ++ caps) w fun e w' => e = .returned v ∧ V (S.map L) w')
    (h : detList P ops (Wof S V) (i + 1) rest (A.put o.dst v) fin) : detList P ops (Wof S V) i (o :: rest) A fin :=
  det_w v hg (fun L w hV _ _ _ => wp_call_fn x args tys ho F caps vals hx hargs hF ((hc L w hV).mono fun e w' he => ⟨v, he.1, rfl, by rw [map_far S i L hS]; exact he.2⟩)) h
end
noncomputable def cmpI : Int → Int → Int := Classical.choose (laid fun (x : Int) (y : Int) => (if x < y then -1 else if y < x then 1 else 0 : Int))
theorem cmpI_eq (x : Int) (y : Int) : cmpI x y = (if x < y then -1 else if y < x then 1 else 0 : Int) := laid2 _ x y


theorem isNaN_any (x : Int) (w : World) : Calls Tryz.prog 105 #[.int .u64 x] w fun e w' => e = .returned (.bool false) ∧ w = w' := by
  go_enter Tryz.func105, Tryz.ntmps105
  go_wp2
  go_ret
  refine ⟨?_, rfl⟩
  simp
theorem compare_any (x y : Int) (w : World) : Calls Tryz.prog 64 #[.int .u64 x, .int .u64 y] w fun e w' => e = .returned (.int .i64 (cmpI x y)) ∧ w = w' := by
  go_enter Tryz.func64, Tryz.ntmps64
  go_wp2_with (go_at_call 105; refine (isNaN_any _ _).mono ?_; rintro e w' ⟨rfl, rfl⟩)
  all_goals
    go_ret
    refine ⟨?_, rfl⟩
    rw [cmpI_eq]
    first | (simp [*]; done) | (rw [if_neg (by omega), if_pos (by omega)]; rfl) | (rw [if_neg (by omega), if_neg (by omega)]; rfl)

def firstNZ : List Int → Int
  | [] => 0
  | x :: xs => if x = 0 then firstNZ xs else x
abbrev intRows (l : List Int) : List (List Value) := l.map fun x => [Value.int .i64 x]
theorem intRows_at {w : World} {A : Option Addr} {l : List Int} (hr : RowsAt w 1 A (intRows l)) {k : Nat} (hlt : k < l.length) :
    ∃ ad x, A = some ad ∧ w.cell? (ad.add k) = some (.int .i64 x) ∧ l[k]? = some x := by
  obtain ⟨ad, rfl, _, hc⟩ := hr.at_ (i := k) (by simpa using hlt)
  refine ⟨ad, l[k], rfl, ?_, List.getElem?_eq_getElem hlt⟩
  have := hc 0 (.int .i64 l[k]) (by simp)
  rw [addAdd] at this
  simpa using this
theorem or_any (A : Option Addr) (c : Nat) (l : List Int) (n : Nat) (w : World) (hl : l.length = n) (hn : n ≤ 1000000) (hr : RowsAt w 1 A (intRows l)) :
    Calls Tryz.prog 63 #[.slice A n c] w fun e w' => e = .returned (.int .i64 (firstNZ l)) ∧ w = w' := by
  subst hl
  go_enter Tryz.func63, Tryz.ntmps63
  go_wp2
  go_loop [8] (fun i => ∃ k : Nat, k ≤ l.length ∧ i = .int .i64 k ∧ firstNZ l = firstNZ (l.drop k)) (fun i => l.length - (intOf i).toNat)
  case atStart => exact ⟨0, Nat.zero_le _, rfl, rfl⟩
  case round =>
    obtain ⟨k, hk, rfl, hall⟩ := hrel
    by_cases hlt : k < l.length
    · obtain ⟨ad, x, rfl, hc, hx⟩ := intRows_at hr hlt
      rw [drop_cons hx, firstNZ] at hall
      have HA := Lib.hid hall
      clear hall hx hr
      by_cases h0 : x = 0
      · have hd : (x != 0) = false := by simp [h0]
        have H0 := Lib.hid h0
        clear h0
        go_wp2
        go_round
        case rel => exact ⟨k + 1, by omega, by go_num, by rw [HA.out, if_pos H0.out]⟩
        case measure => simp [intOf]; omega
      · have hd : (x != 0) = true := by simp [h0]
        go_wp2
        go_ret
        refine ⟨?_, rfl⟩
        rw [HA.out, if_neg h0]
        rfl
    · have HA := Lib.hid hall
      clear hall hr
      go_wp2
      go_ret
      refine ⟨?_, rfl⟩
      rw [HA.out, List.drop_eq_nil_of_le (by omega)]
      rfl

set_option maxRecDepth 100000 in
theorem enters_key (args : Array Value) (w : World) : Sem.run Tryz.prog (callFunc 65 args) w = .ok (.enter 65 args) w := by
  simp only [callFunc, go_sem, Tryz.func65]
  rfl
set_option maxRecDepth 100000 in
theorem enters_compare (args : Array Value) (w : World) : Sem.run Tryz.prog (callFunc 64 args) w = .ok (.enter 64 args) w := by
  simp only [callFunc, go_sem, Tryz.func64]
  rfl
set_option maxRecDepth 100000 in
theorem enters_or (args : Array Value) (w : World) : Sem.run Tryz.prog (callFunc 63 args) w = .ok (.enter 63 args) w := by
  simp only [callFunc, go_sem, Tryz.func63]
  rfl
set_option maxRecDepth 100000 in
theorem enters_order1 (args : Array Value) (w : World) : Sem.run Tryz.prog (callFunc 62 args) w = .ok (.enter 62 args) w := by
  simp only [callFunc, go_sem, Tryz.func62]
  rfl
noncomputable def ordCf : Tsk → Tsk → Int := Classical.choose (laid fun (x : Tsk) (y : Tsk) => (firstNZ [cmpI (fKey x.rank) (fKey y.rank), cmpI x.id y.id] : Int))
theorem ordCf_eq (x : Tsk) (y : Tsk) : ordCf x y = (firstNZ [cmpI (fKey x.rank) (fKey y.rank), cmpI x.id y.id] : Int) := laid2 _ x y


set_option maxRecDepth 100000 in
theorem order1_any (x y : Tsk) (w : World) : Calls Tryz.prog 62 #[x.val, y.val] w fun e w' => e = .returned (.int .i64 (ordCf x y)) ∧ Ext w w' := by
  have HO := Lib.hid (ordCf_eq x y)
  obtain ⟨k1, hk1⟩ : ∃ k, fKey x.rank = k := ⟨_, rfl⟩
  obtain ⟨k2, hk2⟩ : ∃ k, fKey y.rank = k := ⟨_, rfl⟩
  obtain ⟨c1, hc1⟩ : ∃ k, cmpI k1 k2 = k := ⟨_, rfl⟩
  obtain ⟨c2, hc2⟩ : ∃ k, cmpI x.id y.id = k := ⟨_, rfl⟩
  have HK1 := Lib.hid hk1
  have HK2 := Lib.hid hk2
  have HC1 := Lib.hid hc1
  have HC2 := Lib.hid hc2
  clear hk1 hk2 hc1 hc2
  go_enter Tryz.func62, Tryz.ntmps62
  go_wp2_with fail
  obtain ⟨W, hW⟩ : ∃ W, W = (w.alloc (.cells (Tsk.row x).toArray 36)).alloc (.cells (Tsk.row y).toArray 36) := ⟨_, rfl⟩
  have HBx := Lib.hid (show Blk W w.heap.size 36 (Tsk.row x) by rw [hW]; exact (Blk.new w _ _).al _)
  have HBy := Lib.hid (show Blk W (w.heap.size + 1) 36 (Tsk.row y) by rw [hW]; exact Blk.new1 w _ _ _)
  have hWe : Ext w W := by rw [hW]; exact (Ext.rfl'.al _).al _
  change Code.wp _ _ _ _ ((w.alloc (.cells (Tsk.row x).toArray 36)).alloc (.cells (Tsk.row y).toArray 36))
  rw [← hW]
  clear hW
  refine wp_region_dets (by kernel_rfl) [12, 13] (fun B w' => Ext W w' ∧ match B with | [false, _] => w'.heap.size = W.heap.size | [true, false] => Blk w' W.heap.size 3 [.int .i64 c1, .int .i64 c2] | _ => True) (by kernel_rfl) rfl ⟨Ext.rfl'.dr, rfl⟩ ?_
  repeat (refine det_p _ rfl rfl (fun w => by go_simp; with_reducible rfl) ?_; simp only [Nat.reduceAdd, Act.put, List.setIfInBounds_toArray, List.set_cons_succ, List.set_cons_zero])
  refine det_r (.float .f64 x.rank) rfl rfl (fun L w' hV hn => run_load_cell 33 _ rfl ⟨w.heap.size, 4, none⟩ _ rfl _ ((Blk.cell (HBx.out.ext hV.1) 4).trans rfl) Tryz.underlying33 rfl) ?_
  simp only [Nat.reduceAdd, Act.put, List.setIfInBounds_toArray, List.set_cons_succ, List.set_cons_zero]
  refine det_c (.int .u64 k1) rfl rfl _ _ _ rfl 65 #[] #[.float .f64 x.rank] rfl (by simp only [List.map_toArray, List.map_cons, List.map_nil]; rfl) enters_key (fun L w' hV => (key_any x.rank w').mono fun e w'' he => ⟨he.1.trans (by rw [HK1.out]), he.2 ▸ hV⟩) ?_
  simp only [Nat.reduceAdd, Act.put, List.setIfInBounds_toArray, List.set_cons_succ, List.set_cons_zero]
  repeat (refine det_p _ rfl rfl (fun w => by go_simp; with_reducible rfl) ?_; simp only [Nat.reduceAdd, Act.put, List.setIfInBounds_toArray, List.set_cons_succ, List.set_cons_zero])
  refine det_r (.float .f64 y.rank) rfl rfl (fun L w' hV hn => run_load_cell 33 _ rfl ⟨w.heap.size + 1, 4, none⟩ _ rfl _ ((Blk.cell (HBy.out.ext hV.1) 4).trans rfl) Tryz.underlying33 rfl) ?_
  simp only [Nat.reduceAdd, Act.put, List.setIfInBounds_toArray, List.set_cons_succ, List.set_cons_zero]
  refine det_c (.int .u64 k2) rfl rfl _ _ _ rfl 65 #[] #[.float .f64 y.rank] rfl (by simp only [List.map_toArray, List.map_cons, List.map_nil]; rfl) enters_key (fun L w' hV => (key_any y.rank w').mono fun e w'' he => ⟨he.1.trans (by rw [HK2.out]), he.2 ▸ hV⟩) ?_
  simp only [Nat.reduceAdd, Act.put, List.setIfInBounds_toArray, List.set_cons_succ, List.set_cons_zero]
  refine det_c (.int .i64 c1) rfl rfl _ _ _ rfl 64 #[] #[.int .u64 k1, .int .u64 k2] rfl (by simp only [List.map_toArray, List.map_cons, List.map_nil]; rfl) enters_compare (fun L w' hV => (compare_any k1 k2 w').mono fun e w'' he => ⟨he.1.trans (by rw [HC1.out]), he.2 ▸ hV⟩) ?_
  simp only [Nat.reduceAdd, Act.put, List.setIfInBounds_toArray, List.set_cons_succ, List.set_cons_zero]
  repeat (refine det_p _ rfl rfl (fun w => by go_simp; with_reducible rfl) ?_; simp only [Nat.reduceAdd, Act.put, List.setIfInBounds_toArray, List.set_cons_succ, List.set_cons_zero])
  refine det_r (.int .u64 x.id) rfl rfl (fun L w' hV hn => run_load_cell 26 _ rfl ⟨w.heap.size, 0, none⟩ _ rfl _ ((Blk.cell (HBx.out.ext hV.1) 0).trans rfl) Tryz.underlying26 rfl) ?_
  simp only [Nat.reduceAdd, Act.put, List.setIfInBounds_toArray, List.set_cons_succ, List.set_cons_zero]
  repeat (refine det_p _ rfl rfl (fun w => by go_simp; with_reducible rfl) ?_; simp only [Nat.reduceAdd, Act.put, List.setIfInBounds_toArray, List.set_cons_succ, List.set_cons_zero])
  refine det_r (.int .u64 y.id) rfl rfl (fun L w' hV hn => run_load_cell 26 _ rfl ⟨w.heap.size + 1, 0, none⟩ _ rfl _ ((Blk.cell (HBy.out.ext hV.1) 0).trans rfl) Tryz.underlying26 rfl) ?_
  simp only [Nat.reduceAdd, Act.put, List.setIfInBounds_toArray, List.set_cons_succ, List.set_cons_zero]
  refine det_c (.int .i64 c2) rfl rfl _ _ _ rfl 64 #[] #[.int .u64 x.id, .int .u64 y.id] rfl (by simp only [List.map_toArray, List.map_cons, List.map_nil]; rfl) enters_compare (fun L w' hV => (compare_any x.id y.id w').mono fun e w'' he => ⟨he.1.trans (by rw [HC2.out]), he.2 ▸ hV⟩) ?_
  simp only [Nat.reduceAdd, Act.put, List.setIfInBounds_toArray, List.set_cons_succ, List.set_cons_zero]
  refine det_w (.slice (some ⟨W.heap.size, 0, none⟩) 2 2) rfl (fun L w' hV hi hd hn => by
    have h13 := hn 13 (by kernel_rfl)
    simp only [List.map, hi, h13] at hV
    go_simp
    refine ⟨hV.1.al _, ?_⟩
    rw [← hV.2]
    exact Blk.new w' _ _) ?_
  simp only [Nat.reduceAdd, Act.put, List.setIfInBounds_toArray, List.set_cons_succ, List.set_cons_zero]
  refine det_w (.int .i64 (firstNZ [c1, c2])) rfl (fun L w' hV hi hd hn => by
    have h12 := hd 12 (by kernel_rfl)
    simp only [List.map, hi, h12] at hV
    refine wp_call_fn _ _ _ rfl 63 #[] #[.slice (some ⟨W.heap.size, 0, none⟩) 2 2] rfl (by simp only [List.map_toArray, List.map_cons, List.map_nil]; rfl) enters_or ?_
    refine (or_any (some ⟨W.heap.size, 0, none⟩) 2 [c1, c2] 2 w' rfl (by omega) (fun _ => ⟨_, rfl, fun i r hi => ?_⟩)).mono ?_
    · have hlt := (List.getElem?_eq_some_iff.1 hi).1
      simp at hlt
      rw [addLit]
      rcases (show i = 0 ∨ i = 1 by omega) with rfl | rfl
      · simp at hi; subst hi
        exact ⟨rfl, hV.2.cellsAt 0 _ fun j u hj => by
          have := (List.getElem?_eq_some_iff.1 hj).1
          simp at this; subst this
          simpa using hj⟩
      · simp at hi; subst hi
        exact ⟨rfl, hV.2.cellsAt 1 _ fun j u hj => by
          have := (List.getElem?_eq_some_iff.1 hj).1
          simp at this; subst this
          simpa using hj⟩
    · rintro e w'' ⟨rfl, rfl⟩
      refine ⟨_, rfl, rfl, ?_⟩
      simp only [List.map, h12]
      exact ⟨hV.1, trivial⟩) ?_
  simp only [Nat.reduceAdd, Act.put, List.setIfInBounds_toArray, List.set_cons_succ, List.set_cons_zero]
  repeat (refine det_p _ rfl rfl (fun w => by go_simp; with_reducible rfl) ?_; simp only [Nat.reduceAdd, Act.put, List.setIfInBounds_toArray, List.set_cons_succ, List.set_cons_zero])
  intro w1 hV
  have hb1 := hV.1
  clear hV
  go_wp2
  go_ret
  refine ⟨?_, hWe.tr hb1⟩
  rw [HO.out, HK1.out, HK2.out, HC1.out, HC2.out]
  rfl
end Go.Proofs.YthhmbijblpjfpaaGreat
