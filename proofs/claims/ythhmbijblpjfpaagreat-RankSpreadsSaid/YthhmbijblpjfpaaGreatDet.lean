/- A region that draws its order, walked once in the order of its text: each operation's value is the same in whatever order the edges allow. -/
import Derived.Test.YthhmbijblpjfpaaGreatMem
import Derived.Orders
namespace Go.Proofs.YthhmbijblpjfpaaGreat
open Go.RowKit

def NoQ : Exit → Act → World → Prop := fun _ _ _ => False

/-- operation i stands behind operation j -/
def dep (ops : Array Oper) (i j : Nat) : Bool :=
  match ops[i]? with
  | some o => o.after.any fun e => Region.binds .any e && e.on == j
  | none => false

def detOk (ops : Array Oper) : Bool :=
  Region.noSelect ops &&
  (List.range ops.size).all fun i =>
    match ops[i]? with
    | none => true
    | some o =>
      (o.after.all fun e => !Region.binds .any e || decide (e.on < i)) &&
      (List.range ops.size).all fun j =>
        match ops[j]? with
        | none => true
        | some o' =>
          match o'.dst with
          | none => true
          | some d => (i == j || o.dst != some d) && (!(o.looksAt ops).contains d || (decide (j < i) && dep ops i j) || (decide (i < j) && dep ops j i))

theorem detOk_spec {ops : Array Oper} (h : detOk ops = true) : Region.noSelect ops = true ∧
    (∀ i o, ops[i]? = some o → ∀ e ∈ o.after, Region.binds .any e = true → e.on < i) ∧
    (∀ (i j : Nat) (o o' : Oper) (d : Tmp), ops[i]? = some o → ops[j]? = some o' → o'.dst = some d → (i = j ∨ o.dst ≠ some d) ∧
      (d ∈ o.looksAt ops → (j < i ∧ dep ops i j = true) ∨ (i < j ∧ dep ops j i = true))) := by
  unfold detOk at h
  rw [Bool.and_eq_true, List.all_eq_true] at h
  refine ⟨h.1, fun i o ho e he hb => ?_, fun i j o o' d ho ho' hd => ?_⟩
  · have hi : i < ops.size := (Array.getElem?_eq_some_iff.1 ho).1
    have := h.2 i (List.mem_range.2 hi)
    rw [ho] at this
    simp only [Bool.and_eq_true] at this
    have h1 := Array.all_eq_true_iff_forall_mem.1 this.1 e he
    simpa [hb] using h1
  · have hi : i < ops.size := (Array.getElem?_eq_some_iff.1 ho).1
    have hj : j < ops.size := (Array.getElem?_eq_some_iff.1 ho').1
    have := h.2 i (List.mem_range.2 hi)
    rw [ho] at this
    simp only [Bool.and_eq_true] at this
    have h2 := List.all_eq_true.1 this.2 j (List.mem_range.2 hj)
    rw [ho'] at h2
    simp only [hd, Bool.and_eq_true, Bool.or_eq_true, beq_iff_eq, bne_iff_ne, decide_eq_true_eq, Bool.not_eq_true', List.contains_eq_mem] at h2
    refine ⟨h2.1, fun hm => ?_⟩
    rcases h2.2 with (h3 | h3) | h3
    · simp [hm] at h3
    · exact .inl h3
    · exact .inr h3

/-- What one operation owes: at the frame A, in whatever world that W lets be. -/
def StepOK (P : Program) (ops : Array Oper) (W : (Nat → Bool) → World → Prop) (v : Value) (A : Act) (i : Nat) (o : Oper) : Prop :=
  ∀ (L : Nat → Bool) (w : World), W L w → L i = false → (∀ j, dep ops i j = true → L j = true) → (∀ j, dep ops j i = true → L j = false) →
    (Region.wanted o (yielded ops A.tmps) = true ∧ o.wp P A w (fun a' w' => a' = A.put o.dst v ∧ W (fun j => j == i || L j) w') NoQ) ∨
    (Region.wanted o (yielded ops A.tmps) = false ∧ v = undef ∧ W (fun j => j == i || L j) w)

def detList (P : Program) (ops : Array Oper) (W : (Nat → Bool) → World → Prop) : Nat → List Oper → Act → (Act → Prop) → Prop
  | _, [], A, fin => fin A
  | i, o :: rest, A, fin => ∃ v, StepOK P ops W v A i o ∧ detList P ops W (i + 1) rest (A.put o.dst v) fin

def upTo (ops : Array Oper) (val : Nat → Value) (a0 : Act) : Nat → Act
  | 0 => a0
  | i + 1 => match ops[i]? with
    | some o => (upTo ops val a0 i).put o.dst (val i)
    | none => upTo ops val a0 i

theorem put_size (a : Act) (d : Option Tmp) (v : Value) : (a.put d v).tmps.size = a.tmps.size := by cases d <;> simp [Act.put]
theorem put_defers (a : Act) (d : Option Tmp) (v : Value) : (a.put d v).defers = a.defers := by cases d <;> rfl
theorem put_at (a : Act) (d : Tmp) (v : Value) (h : d < a.tmps.size) : (a.put (some d) v).tmps[d]? = some v := by simp [Act.put, h]
theorem put_ne (a : Act) (x : Option Tmp) (d : Tmp) (v : Value) (h : x ≠ some d) : (a.put x v).tmps[d]? = a.tmps[d]? := by
  cases x with
  | none => rfl
  | some e =>
    have : e ≠ d := fun h' => h (by rw [h'])
    simp [Act.put, this]
theorem put_inj (a A : Act) (x : Option Tmp) (u v : Value) (hs : a.tmps.size = A.tmps.size) (h : A.put x u = A.put x v) : a.put x u = a.put x v := by
  cases x with
  | none => rfl
  | some d =>
    by_cases hd : d < A.tmps.size
    · have h1 := put_at A d u hd
      rw [h, put_at A d v hd] at h1
      injection h1 with h1
      rw [h1]
    · simp only [Act.put]
      rw [Array.setIfInBounds_eq_of_size_le (by rw [hs]; exact Nat.le_of_not_lt hd), Array.setIfInBounds_eq_of_size_le (by rw [hs]; exact Nat.le_of_not_lt hd)]

section
variable {ops : Array Oper} {val : Nat → Value} {a0 : Act}
theorem upTo_size : ∀ i, (upTo ops val a0 i).tmps.size = a0.tmps.size
  | 0 => rfl
  | i + 1 => by
    unfold upTo
    cases ops[i]? with
    | none => exact upTo_size i
    | some o => rw [put_size, upTo_size i]
theorem upTo_defers : ∀ i, (upTo ops val a0 i).defers = a0.defers
  | 0 => rfl
  | i + 1 => by
    unfold upTo
    cases ops[i]? with
    | none => exact upTo_defers i
    | some o => rw [put_defers, upTo_defers i]
theorem upTo_free (d : Tmp) : ∀ i, (∀ j o, j < i → ops[j]? = some o → o.dst ≠ some d) → (upTo ops val a0 i).tmps[d]? = a0.tmps[d]?
  | 0, _ => rfl
  | i + 1, h => by
    have ih := upTo_free d i (fun j o hj => h j o (by omega))
    unfold upTo
    cases ho : ops[i]? with
    | none => exact ih
    | some o => rw [put_ne _ _ _ _ (h i o (by omega) ho), ih]
theorem upTo_done (hd : ∀ (i j : Nat) (o o' : Oper) (d : Tmp), ops[i]? = some o → ops[j]? = some o' → o'.dst = some d → i = j ∨ o.dst ≠ some d) {j : Nat} {o : Oper} {d : Tmp} (ho : ops[j]? = some o) (hx : o.dst = some d) (hs : d < a0.tmps.size) :
    ∀ i, j < i → (upTo ops val a0 i).tmps[d]? = some (val j)
  | 0, h => absurd h (by omega)
  | i + 1, h => by
    unfold upTo
    by_cases hij : j = i
    · subst hij
      simp only [ho, hx]
      exact put_at _ _ _ (by rw [upTo_size]; exact hs)
    · have ih := upTo_done hd ho hx hs i (by omega)
      cases ho' : ops[i]? with
      | none => exact ih
      | some o' =>
        rw [put_ne _ _ _ _ ((hd i j o' o d ho' ho hx).resolve_left (fun e => hij e.symm)), ih]
end

structure DetInv (ops : Array Oper) (a0 : Act) (val : Nat → Value) (L : Array Bool) (a : Act) : Prop where
  size : L.size = ops.size
  closed : ∀ i j, L.getD i false = true → dep ops i j = true → L.getD j false = true
  tsize : a.tmps.size = a0.tmps.size
  defers : a.defers = a0.defers
  done : ∀ j o d, ops[j]? = some o → o.dst = some d → L.getD j false = true → d < a0.tmps.size → a.tmps[d]? = some (val j)
  free : ∀ d, (∀ j o, ops[j]? = some o → L.getD j false = true → o.dst ≠ some d) → a.tmps[d]? = a0.tmps[d]?

theorem dep_of_mem {ops : Array Oper} {i : Nat} {o : Oper} {e : Edge} (ho : ops[i]? = some o) (he : e ∈ o.after) (hb : Region.binds .any e = true) : dep ops i e.on = true := by
  unfold dep
  rw [ho]
  show o.after.any _ = true
  rw [← Array.any_toList]
  exact List.any_eq_true.2 ⟨e, by simpa using he, by simp [hb]⟩
theorem mem_of_dep {ops : Array Oper} {i j : Nat} {o : Oper} (ho : ops[i]? = some o) (h : dep ops i j = true) : ∃ e ∈ o.after, Region.binds .any e = true ∧ e.on = j := by
  unfold dep at h
  rw [ho] at h
  replace h : o.after.any (fun e => Region.binds .any e && e.on == j) = true := h
  rw [← Array.any_toList] at h
  obtain ⟨e, he, h⟩ := List.any_eq_true.1 h
  simp at h
  exact ⟨e, by simpa using he, h.1, h.2⟩

section
variable {P : Program} {ops : Array Oper} {a0 : Act} {val : Nat → Value} {W : (Nat → Bool) → World → Prop} {Q : Exit → Act → World → Prop}

/-- the frame as it stands, and the frame in the text's order: alike where operation i looks -/
theorem DetInv.agree (hok : detOk ops = true) {L : Array Bool} {a : Act} (h : DetInv ops a0 val L a) {i : Nat} {o : Oper} (ho : ops[i]? = some o) (hi : L.getD i false = false)
    (hdeps : ∀ j, dep ops i j = true → L.getD j false = true) (t : Tmp) (ht : t ∈ o.looksAt ops) : a.tmps[t]? = (upTo ops val a0 i).tmps[t]? := by
  obtain ⟨_, _, hsp⟩ := detOk_spec hok
  have hdis : ∀ (i j : Nat) (o o' : Oper) (d : Tmp), ops[i]? = some o → ops[j]? = some o' → o'.dst = some d → i = j ∨ o.dst ≠ some d := fun i j o o' d h1 h2 h3 => (hsp i j o o' d h1 h2 h3).1
  by_cases hex : ∃ (j : Nat) (o' : Oper), ops[j]? = some o' ∧ o'.dst = some t
  · obtain ⟨j, o', ho', hd⟩ := hex
    by_cases hs : t < a0.tmps.size
    · rcases (hsp i j o o' t ho ho' hd).2 ht with ⟨hji, hdep⟩ | ⟨hij, hdep⟩
      · rw [h.done j o' t ho' hd (hdeps j hdep) hs, upTo_done hdis ho' hd hs i hji]
      · have hLj : L.getD j false = false := by
          cases hL : L.getD j false with
          | false => rfl
          | true => have := h.closed j i hL hdep; rw [hi] at this; cases this
        rw [h.free t (fun k ok hok' hLk hdk => by
              rcases hdis j k o' ok t ho' hok' hdk with e | e
              · subst e; rw [hLj] at hLk; cases hLk
              · exact e hd),
          upTo_free t i (fun k ok hk hok' hdk => by
              rcases hdis j k o' ok t ho' hok' hdk with e | e
              · omega
              · exact e hd)]
    · rw [Array.getElem?_eq_none (by rw [h.tsize]; exact Nat.le_of_not_lt hs), Array.getElem?_eq_none (by rw [upTo_size]; exact Nat.le_of_not_lt hs)]
  · rw [h.free t (fun k ok hok' _ hdk => hex ⟨k, ok, hok', hdk⟩), upTo_free t i (fun k ok _ hok' hdk => hex ⟨k, ok, hok', hdk⟩)]

theorem wp_transfer {o : Oper} {A a : Act} {w : World} {v : Value} {R : World → Prop} (hs : a.tmps.size = A.tmps.size) (he : execOp A.eval o = execOp a.eval o)
    (h : o.wp P A w (fun a' w' => a' = A.put o.dst v ∧ R w') NoQ) : o.wp P a w (fun a' w' => a' = a.put o.dst v ∧ R w') Q := by
  unfold Oper.wp at *
  rw [← he]
  generalize (execOp A.eval o).run P w = r at *
  cases r with
  | ok n w' =>
    cases n <;> simp only [Oper.upon] at h ⊢
    case value u => exact ⟨put_inj a A _ _ _ hs h.1, h.2⟩
    case skip => exact ⟨put_inj a A _ _ _ hs h.1, h.2⟩
    case defer d =>
      have := congrArg Act.defers h.1
      rw [put_defers, put_defers] at this
      exact absurd this (by simp)
    case enter f args =>
      refine Calls.mono h fun e w'' he => ?_
      cases e with
      | returned u => exact ⟨put_inj a A _ _ _ hs he.1, he.2⟩
      | panicked c => exact he.elim
      | outgrown => obtain ⟨_, _, hf⟩ := he; exact hf.elim
    case row row args => exact Rows.mono h fun u w'' he => ⟨put_inj a A _ _ _ hs he.1, he.2⟩
  | halt x w' => cases x <;> simp only [Oper.upon] at h ⊢ <;> exact h.elim

theorem getD_set (L : Array Bool) (i j : Nat) (hi : i < L.size) : (L.setIfInBounds i true).getD j false = (j == i || L.getD j false) := by
  by_cases h : j = i
  · subst h
    simp [Array.getD, hi]
  · have : (j == i) = false := by simpa using h
    rw [this, Bool.false_or]
    exact getD_set_ne false (fun e => h e.symm)

theorem DetInv.step (hok : detOk ops = true) {L : Array Bool} {a : Act} (h : DetInv ops a0 val L a) {i : Nat} {o : Oper} (ho : ops[i]? = some o) (hi : L.getD i false = false)
    (hdeps : ∀ j, dep ops i j = true → L.getD j false = true) : DetInv ops a0 val (L.setIfInBounds i true) (a.put o.dst (val i)) := by
  obtain ⟨_, _, hsp⟩ := detOk_spec hok
  have hlt : i < L.size := by rw [h.size]; exact (Array.getElem?_eq_some_iff.1 ho).1
  refine ⟨by simp [h.size], fun k j hk hd => ?_, by rw [put_size, h.tsize], by rw [put_defers, h.defers], fun j oj d hoj hdj hL hs => ?_, fun d hd => ?_⟩
  · rw [getD_set L i _ hlt] at hk ⊢
    rw [Bool.or_eq_true] at hk ⊢
    rcases hk with hk | hk
    · have : k = i := by simpa using hk
      subst this
      exact .inr (hdeps j hd)
    · exact .inr (h.closed k j hk hd)
  · rw [getD_set L i _ hlt, Bool.or_eq_true] at hL
    by_cases hji : j = i
    · subst hji
      rw [ho] at hoj
      injection hoj with hoj
      subst hoj
      rw [hdj]
      exact put_at _ _ _ (by rw [h.tsize]; exact hs)
    · have hL' : L.getD j false = true := hL.resolve_left (by simpa using hji)
      rw [put_ne _ _ _ _ (((hsp i j o oj d ho hoj hdj).1).resolve_left (fun e => hji e.symm))]
      exact h.done j oj d hoj hdj hL' hs
  · have h1 : o.dst ≠ some d := hd i o ho (by rw [getD_set L i _ hlt]; simp)
    rw [put_ne _ _ _ _ h1]
    exact h.free d fun k ok hok' hL => hd k ok hok' (by rw [getD_set L i _ hlt, hL]; simp)

theorem det_any (hok : detOk ops = true) (hstep : ∀ i o, ops[i]? = some o → StepOK P ops W (val i) (upTo ops val a0 i) i o)
    (hQ : ∀ (L : Nat → Bool) w, (∀ j, j < ops.size → L j = true) → W L w → Q .normal (upTo ops val a0 ops.size) w) :
    ∀ (fuel : Nat) (L : Array Bool) (a : Act) (w : World), L.toList.count false ≤ fuel → DetInv ops a0 val L a → W (fun j => L.getD j false) w → wpAny P .any ops Q fuel L a w := by
  obtain ⟨hsel, hback, hsp⟩ := detOk_spec hok
  have hdis : ∀ (i j : Nat) (o o' : Oper) (d : Tmp), ops[i]? = some o → ops[j]? = some o' → o'.dst = some d → i = j ∨ o.dst ≠ some d := fun i j o o' d h1 h2 h3 => (hsp i j o o' d h1 h2 h3).1
  have hend : ∀ (L : Array Bool) (a : Act) (w : World), DetInv ops a0 val L a → W (fun j => L.getD j false) w → Region.ready .any ops L = [] → Q .normal a w := by
    intro L a w h hW hr
    have hall : ∀ i, i < ops.size → L.getD i false = true := by
      intro i
      induction i using Nat.strongRecOn with
      | ind i ih =>
        intro hi
        cases hL : L.getD i false with
        | true => rfl
        | false =>
          have : i ∈ Region.ready .any ops L := mem_ready.2 ⟨by
            have hlt : i < L.size := by rw [h.size]; exact hi
            simp only [Array.getD, hlt, dif_pos] at hL ⊢
            exact hL, ops[i], Array.getElem?_eq_getElem hi, fun e he hb => ih e.on (hback i _ (Array.getElem?_eq_getElem hi) e he hb) (by have := hback i _ (Array.getElem?_eq_getElem hi) e he hb; omega)⟩
          rw [hr] at this
          cases this
    have ha : a = upTo ops val a0 ops.size := by
      have ht : a.tmps = (upTo ops val a0 ops.size).tmps := by
        apply Array.ext_getElem?
        intro d
        by_cases hex : ∃ (j : Nat) (o' : Oper), ops[j]? = some o' ∧ o'.dst = some d
        · obtain ⟨j, o', ho', hd⟩ := hex
          have hj : j < ops.size := (Array.getElem?_eq_some_iff.1 ho').1
          by_cases hs : d < a0.tmps.size
          · rw [h.done j o' d ho' hd (hall j hj) hs, upTo_done hdis ho' hd hs _ hj]
          · rw [Array.getElem?_eq_none (by rw [h.tsize]; exact Nat.le_of_not_lt hs), Array.getElem?_eq_none (by rw [upTo_size]; exact Nat.le_of_not_lt hs)]
        · rw [h.free d (fun k ok hok' _ hdk => hex ⟨k, ok, hok', hdk⟩), upTo_free d _ (fun k ok _ hok' hdk => hex ⟨k, ok, hok', hdk⟩)]
      have hdf : a.defers = (upTo ops val a0 ops.size).defers := by rw [h.defers, upTo_defers]
      cases a
      cases hu : upTo ops val a0 ops.size
      rw [hu] at ht hdf
      simp only at ht hdf
      rw [ht, hdf]
    rw [ha]
    exact hQ _ w hall hW
  intro fuel
  induction fuel with
  | zero =>
    intro L a w hc h hW
    have hr : Region.ready .any ops L = [] := by
      apply List.eq_nil_iff_forall_not_mem.2
      intro i hi
      have h1 := (mem_ready.1 hi).1
      have hlt : i < L.size := by
        rcases Nat.lt_or_ge i L.size with h2 | h2
        · exact h2
        · simp [Array.getD, Nat.not_lt.2 h2] at h1
      have h2 : false ∈ L.toList := by
        simp only [Array.getD, hlt, dif_pos] at h1
        rw [← h1]
        exact Array.getElem_mem_toList hlt
      have := List.count_pos_iff.2 h2
      omega
    exact ⟨hr, hend L a w h hW hr⟩
  | succ fuel ih =>
    intro L a w hc h hW
    refine ⟨hend L a w h hW, fun i hi => ?_⟩
    obtain ⟨h1, o, ho, hdep⟩ := mem_ready.1 hi
    have hlt : i < L.size := by rw [h.size]; exact (Array.getElem?_eq_some_iff.1 ho).1
    have hLi : L[i] = false := by simpa [Array.getD, hlt] using h1
    have hLf : L.getD i false = false := by simp [Array.getD, hlt, hLi]
    have hdeps : ∀ j, dep ops i j = true → L.getD j false = true := fun j hj => by
      obtain ⟨e, he, hb, rfl⟩ := mem_of_dep ho hj
      exact hdep e he hb
    have hag := h.agree hok ho hLf hdeps
    have hev : ∀ x ∈ o.op.operands, (upTo ops val a0 i).eval x = a.eval x := by
      intro x hx
      cases x with
      | tmp t =>
        have := hag t (by
          unfold Oper.looksAt
          rw [List.mem_append]
          exact .inl (List.mem_filterMap.2 ⟨.tmp t, by simpa using hx, rfl⟩))
        simp only [Act.eval, Array.getD_eq_getD_getElem?]
        rw [this]
      | const v => rfl
      | global g => rfl
      | func f => rfl
    have hexec : execOp (upTo ops val a0 i).eval o = execOp a.eval o := execOp_congr o (fun cs b => Region.noSelect_spec hsel i o cs b ho) hev
    have hwant : Region.wanted o (yielded ops (upTo ops val a0 i).tmps) = Region.wanted o (yielded ops a.tmps) := by
      unfold Region.wanted
      cases hg : o.guard with
      | none => rfl
      | some p =>
        obtain ⟨g, want⟩ := p
        simp only [yielded]
        cases hd : (ops[g]?).bind (·.dst) with
        | none => rfl
        | some d =>
          have := hag d (by unfold Oper.looksAt; rw [List.mem_append]; right; simp [hg, hd])
          simp only [Option.bind_some]
          rw [this]
    have hW' : ∀ w', W (fun j => j == i || L.getD j false) w' → W (fun j => (L.setIfInBounds i true).getD j false) w' := by
      intro w' hw
      have : (fun j => (L.setIfInBounds i true).getD j false) = fun j => j == i || L.getD j false := funext fun j => getD_set L i j hlt
      rw [this]
      exact hw
    have hcount : (L.setIfInBounds i true).toList.count false ≤ fuel := by
      rw [Array.toList_setIfInBounds, List.count_set (by simpa using hlt)]
      have hpos : 0 < L.toList.count false := List.count_pos_iff.2 (by rw [← hLi]; exact Array.getElem_mem_toList hlt)
      have e1 : (if (L.toList[i]'(by simpa using hlt) == false) = true then 1 else 0) = 1 := by simp [hLi]
      have e2 : (if ((true : Bool) == false) = true then 1 else 0) = 0 := rfl
      rw [e1, e2]
      omega
    have hnext : ∀ w', W (fun j => j == i || L.getD j false) w' → wpAny P .any ops Q fuel (L.setIfInBounds i true) (a.put o.dst (val i)) w' :=
      fun w' hw => ih _ _ _ hcount (h.step hok ho hLf hdeps) (hW' w' hw)
    have hS := hstep i o ho (fun j => L.getD j false) w hW hLf hdeps (fun j hj => by
      cases hL : L.getD j false with
      | false => rfl
      | true => have := h.closed j i hL hj; rw [hLf] at this; cases this)
    unfold wpOp
    rw [ho]
    simp only
    rcases hS with ⟨hw, hwp⟩ | ⟨hw, hv, hW2⟩
    · rw [if_pos (by rw [← hwant]; exact hw)]
      exact .inl (Oper.wp_mono (fun a' w' ⟨ha', hw'⟩ => by rw [ha']; exact hnext w' hw') (wp_transfer (Q := Q) (by rw [h.tsize, upTo_size]) hexec hwp))
    · rw [if_neg (by rw [← hwant, hw]; simp), ← hv]
      exact hnext w hW2

theorem detList_vals (P : Program) (ops : Array Oper) (W : (Nat → Bool) → World → Prop) (a0 : Act) (fin : Act → Prop) : ∀ (rest : List Oper) (i : Nat) (pre : Nat → Value), (∀ k, rest[k]? = ops[i + k]?) → i + rest.length = ops.size →
    detList P ops W i rest (upTo ops pre a0 i) fin → ∃ val : Nat → Value, (∀ j, j < i → val j = pre j) ∧ (∀ k o, ops[i + k]? = some o → StepOK P ops W (val (i + k)) (upTo ops val a0 (i + k)) (i + k) o) ∧ fin (upTo ops val a0 ops.size)
  | [], i, pre, hr, hn, h => by
    refine ⟨pre, fun _ _ => rfl, fun k o ho => ?_, ?_⟩
    · have := hr k
      rw [ho] at this
      simp at this
    · have : ops.size = i := by simpa using hn.symm
      rw [this]
      exact h
  | o :: rest, i, pre, hr, hn, h => by
    obtain ⟨v, hs, h⟩ := h
    have ho : ops[i]? = some o := by simpa using (hr 0).symm
    have hcong : ∀ (f g : Nat → Value) n, (∀ j, j < n → f j = g j) → upTo ops f a0 n = upTo ops g a0 n := by
      intro f g n
      induction n with
      | zero => intro _; rfl
      | succ n ih =>
        intro hfg
        unfold upTo
        rw [ih (fun j hj => hfg j (by omega)), hfg n (by omega)]
    obtain ⟨pre', hpre'⟩ : ∃ pre' : Nat → Value, pre' = fun j => if j = i then v else pre j := ⟨_, rfl⟩
    have hp1 : ∀ j, j < i → pre' j = pre j := fun j hj => by rw [hpre']; simp [Nat.ne_of_lt hj]
    have hp2 : pre' i = v := by rw [hpre']; simp
    have hA : (upTo ops pre a0 i).put o.dst v = upTo ops pre' a0 (i + 1) := by
      conv => rhs; unfold upTo
      rw [ho]
      simp only
      rw [hcong pre' pre i hp1, hp2]
    rw [hA] at h
    obtain ⟨val, hv, hst, hf⟩ := detList_vals P ops W a0 fin rest (i + 1) pre' (fun k => by have := hr (k + 1); simpa [Nat.add_assoc, Nat.add_comm 1 k] using this) (by simp at hn; omega) h
    refine ⟨val, fun j hj => by rw [hv j (by omega), hp1 j hj], fun k ok hok => ?_, hf⟩
    cases k with
    | zero =>
      have : ok = o := by
        simp only [Nat.add_zero] at hok
        rw [ho] at hok
        injection hok with hok
        exact hok.symm
      subst this
      simp only [Nat.add_zero]
      rw [hv i (by omega), hp2, hcong val pre i (fun j hj => by rw [hv j (by omega), hp1 j hj])]
      exact hs
    | succ k =>
      have := hst k ok (by rw [← hok]; congr 1; omega)
      rw [show i + 1 + k = i + (k + 1) from by omega] at this
      exact this

theorem detList_mono {fin fin' : Act → Prop} (hf : ∀ A, fin A → fin' A) : ∀ (rest : List Oper) (i : Nat) (A : Act), detList P ops W i rest A fin → detList P ops W i rest A fin'
  | [], _, A, h => hf A h
  | _ :: rest, i, A, ⟨v, hs, h⟩ => ⟨v, hs, detList_mono hf rest (i + 1) _ h⟩

/-- THE RULE. -/
theorem wp_region_det {id : Nat} {w : World} {l : List Oper} (hm : P.follows .mixedOrders = true) (W : (Nat → Bool) → World → Prop) (hok : detOk l.toArray = true)
    (hW : W (fun _ => false) w.drew)
    (h : detList P l.toArray W 0 l a0 fun A => ∀ (L : Nat → Bool) w', (∀ j, j < l.length → L j = true) → W L w' → Q .normal A w') : (Code.region id l.toArray true).wp P Q a0 w := by
  obtain ⟨val, _, hst, hf⟩ := detList_vals P l.toArray W a0 _ l 0 (fun _ => undef) (by simp) (by simp) h
  refine wp_region_any hm (det_any (a0 := a0) (val := val) (W := W) hok (fun i o ho => by have := hst i o (by rw [Nat.zero_add]; exact ho); simpa using this) (fun L w' hL hw => hf L w' (fun j hj => hL j (by simpa using hj)) hw) _ _ _ _ ?_ ?_ ?_)
  · simp [List.count_replicate]
  · refine ⟨by simp, fun i j hi _ => ?_, rfl, rfl, fun j o d _ _ hL _ => ?_, fun d _ => rfl⟩
    · exfalso
      simp [Array.getD] at hi
    · exfalso
      simp [Array.getD] at hL
  · have : (fun j => (Array.replicate l.toArray.size false).getD j false) = fun _ => false := funext fun j => by simp [Array.getD]
    rw [this]
    exact hW

theorem det_pure {i : Nat} {o : Oper} {rest : List Oper} {A : Act} {fin : Act → Prop} (v : Value) (hg : Region.wanted o (yielded ops A.tmps) = true)
    (hrun : ∀ w, (execOp A.eval o).run P w = .ok (.value v) w) (hm : ∀ (L : Nat → Bool) w, W L w → W (fun j => j == i || L j) w)
    (h : detList P ops W (i + 1) rest (A.put o.dst v) fin) : detList P ops W i (o :: rest) A fin :=
  ⟨v, fun L w hW _ _ _ => .inl ⟨hg, by unfold Oper.wp; rw [hrun w]; exact ⟨rfl, hm L w hW⟩⟩, h⟩
theorem det_read {i : Nat} {o : Oper} {rest : List Oper} {A : Act} {fin : Act → Prop} (v : Value) (hg : Region.wanted o (yielded ops A.tmps) = true)
    (hrun : ∀ (L : Nat → Bool) w, W L w → (∀ j, dep ops j i = true → L j = false) → (execOp A.eval o).run P w = .ok (.value v) w) (hm : ∀ (L : Nat → Bool) w, W L w → W (fun j => j == i || L j) w)
    (h : detList P ops W (i + 1) rest (A.put o.dst v) fin) : detList P ops W i (o :: rest) A fin :=
  ⟨v, fun L w hW _ _ hn => .inl ⟨hg, by unfold Oper.wp; rw [hrun L w hW hn]; exact ⟨rfl, hm L w hW⟩⟩, h⟩
theorem det_skip {i : Nat} {o : Oper} {rest : List Oper} {A : Act} {fin : Act → Prop} (hg : Region.wanted o (yielded ops A.tmps) = false)
    (hm : ∀ (L : Nat → Bool) w, W L w → W (fun j => j == i || L j) w) (h : detList P ops W (i + 1) rest (A.put o.dst undef) fin) : detList P ops W i (o :: rest) A fin :=
  ⟨undef, fun L w hW _ _ _ => .inr ⟨hg, rfl, hm L w hW⟩, h⟩
theorem det_step {i : Nat} {o : Oper} {rest : List Oper} {A : Act} {fin : Act → Prop} (v : Value) (hg : Region.wanted o (yielded ops A.tmps) = true)
    (hwp : ∀ (L : Nat → Bool) w, W L w → L i = false → (∀ j, dep ops i j = true → L j = true) → (∀ j, dep ops j i = true → L j = false) →
      o.wp P A w (fun a' w' => a' = A.put o.dst v ∧ W (fun j => j == i || L j) w') NoQ)
    (h : detList P ops W (i + 1) rest (A.put o.dst v) fin) : detList P ops W i (o :: rest) A fin :=
  ⟨v, fun L w hW hi hd hn => .inl ⟨hg, hwp L w hW hi hd hn⟩, h⟩
/-- an aggregate that is loaded -/
theorem run_load_cells {o : Oper} {A : Act} {w : World} (ty : TypeId) (x : Operand) (ho : o.op = .load ty x) (ad : Addr) (cs : List Value) (hx : A.eval x = .pointer (some ad)) (d : TypeDesc) (hc : CellsAt w ad cs)
    (hu : P.underlying ty = some d) (hd : (match d with | .struct _ | .array _ _ => true | _ => false) = true) (hi : (P.info? ty).map (·.size) = some cs.length) :
    (execOp A.eval o).run P w = .ok (.value (.agg cs.toArray)) w := by
  unfold execOp
  simp only [ho, hx, Instr.loadAt, Instr.sureAddr, Sem.run_bind, Sem.run_pure, Result.andThen_ok, run_loadVar_cells w ad ty cs d hc hu hd hi]
theorem run_index_at {o : Oper} {A : Act} {w : World} (t : TypeId) (x ix : Operand) (ho : o.op = .indexAddr t x ix) (e : TypeId) (size g off len cap k : Nat) (v : Int)
    (hx : A.eval x = .slice (some ⟨g, off, none⟩) len cap) (hi : A.eval ix = .int .i64 v) (hv : v = (k : Int)) (hk : k < len) (ht : P.underlying t = some (.slice e)) (hs : (P.info? e).map (·.size) = some size) :
    (execOp A.eval o).run P w = .ok (.value (.pointer (some ⟨g, off + k * size, none⟩))) w := by
  subst hv
  cases hq : P.info? e with
  | none => simp [hq] at hs
  | some i =>
    have hsz : i.size = size := by simpa [hq] using hs
    have hadd : (⟨g, off, none⟩ : Addr).add (k * size) = ⟨g, off + k * size, none⟩ := by unfold Addr.add; split <;> simp_all
    have h0 : (0 : Int) ≤ (k : Int) ∧ (k : Int) < (len : Int) := by omega
    unfold execOp
    simp only [ho, hx, hi, Instr.indexAt, asIntOf, Sem.run_bind, Sem.run_pure, Result.andThen_ok, run_underlying ht, sizeOf, typeInfo]
    simp [h0, hq, hsz, hadd]
theorem wrap_in (x : Int) (h0 : -9223372036854775808 ≤ x) (h1 : x < 9223372036854775808) : IntKind.i64.wrap x = x := by
  rw [IntKind.wrap_i64]
  omega

/-- the operations that turn the world: what has been done of them decides what is known of it -/
theorem map_far (S : List Nat) (i : Nat) (L : Nat → Bool) (h : S.contains i = false) : (S.map fun j => j == i || L j) = S.map L := by
  apply List.map_congr_left
  intro j hj
  have : j ≠ i := fun e => by
    subst e
    have : S.contains j = true := by simpa using hj
    rw [h] at this
    cases this
  simp [this]
abbrev Wof (S : List Nat) (V : List Bool → World → Prop) : (Nat → Bool) → World → Prop := fun L w => V (S.map L) w
theorem det_p {S : List Nat} {V : List Bool → World → Prop} {i : Nat} {o : Oper} {rest : List Oper} {A : Act} {fin : Act → Prop} (v : Value) (hg : Region.wanted o (yielded ops A.tmps) = true) (hS : S.contains i = false)
    (hrun : ∀ w, (execOp A.eval o).run P w = .ok (.value v) w)
    (h : detList P ops (Wof S V) (i + 1) rest (A.put o.dst v) fin) : detList P ops (Wof S V) i (o :: rest) A fin :=
  det_pure v hg hrun (fun L w hw => by show V (S.map _) w; rw [map_far S i L hS]; exact hw) h
theorem det_r {S : List Nat} {V : List Bool → World → Prop} {i : Nat} {o : Oper} {rest : List Oper} {A : Act} {fin : Act → Prop} (v : Value) (hg : Region.wanted o (yielded ops A.tmps) = true) (hS : S.contains i = false)
    (hrun : ∀ (L : Nat → Bool) w, V (S.map L) w → (∀ j, dep ops j i = true → L j = false) → (execOp A.eval o).run P w = .ok (.value v) w)
    (h : detList P ops (Wof S V) (i + 1) rest (A.put o.dst v) fin) : detList P ops (Wof S V) i (o :: rest) A fin :=
  det_read v hg hrun (fun L w hw => by show V (S.map _) w; rw [map_far S i L hS]; exact hw) h
theorem det_s {S : List Nat} {V : List Bool → World → Prop} {i : Nat} {o : Oper} {rest : List Oper} {A : Act} {fin : Act → Prop} (hg : Region.wanted o (yielded ops A.tmps) = false) (hS : S.contains i = false)
    (h : detList P ops (Wof S V) (i + 1) rest (A.put o.dst undef) fin) : detList P ops (Wof S V) i (o :: rest) A fin :=
  det_skip hg (fun L w hw => by show V (S.map _) w; rw [map_far S i L hS]; exact hw) h
theorem det_w {S : List Nat} {V : List Bool → World → Prop} {i : Nat} {o : Oper} {rest : List Oper} {A : Act} {fin : Act → Prop} (v : Value) (hg : Region.wanted o (yielded ops A.tmps) = true)
    (hwp : ∀ (L : Nat → Bool) w, V (S.map L) w → L i = false → (∀ j, dep ops i j = true → L j = true) → (∀ j, dep ops j i = true → L j = false) →
      o.wp P A w (fun a' w' => a' = A.put o.dst v ∧ V (S.map fun j => j == i || L j) w') NoQ)
    (h : detList P ops (Wof S V) (i + 1) rest (A.put o.dst v) fin) : detList P ops (Wof S V) i (o :: rest) A fin :=
  det_step v hg hwp h
theorem wp_region_dets {id : Nat} {w : World} {l : List Oper} (hm : P.follows .mixedOrders = true) (S : List Nat) (V : List Bool → World → Prop) (hok : detOk l.toArray = true) (hSl : (S.all fun j => decide (j < l.length)) = true)
    (hW : V (S.map fun _ => false) w.drew)
    (h : detList P l.toArray (Wof S V) 0 l a0 fun A => ∀ w', V (S.map fun _ => true) w' → Q .normal A w') : (Code.region id l.toArray true).wp P Q a0 w :=
  wp_region_det hm (Wof S V) hok hW (detList_mono (fun A hA L w' hL hw => hA w' (by
    have : S.map L = S.map fun _ => true := List.map_congr_left fun j hj => hL j (by simpa using List.all_eq_true.1 hSl j hj)
    rw [← this]
    exact hw)) _ _ _ h)

/-- a call of a function value -/
theorem wp_call_fn {o : Oper} {A : Act} {w : World} {K : Act → World → Prop} (x : Operand) (args : Array Operand) (tys : Array TypeId) (ho : o.op = .call { callee := .value x, args := args, argTypes := tys }) (F : FuncId) (caps vals : Array Value)
    (hx : A.eval x = .func (.func F) #[] caps) (hargs : args.map A.eval = vals) (hF : ∀ args w, Sem.run P (callFunc F args) w = .ok (.enter F args) w)
    (h : Calls P F (vals ++ caps) w fun e w' => ∃ v, e = .returned v ∧ K (A.put o.dst v) w') : o.wp P A w K Q := by
  unfold Oper.wp execOp
  simp only [ho, resolve, hx, hargs, Deferred.ofValue, Sem.run_bind, Sem.run_pure, Result.andThen_ok]
  simp [invoke, hF, Oper.upon]
  refine Calls.mono h fun e w' ⟨v, he, hk⟩ => ?_
  subst he
  exact hk
end
end Go.Proofs.YthhmbijblpjfpaaGreat
