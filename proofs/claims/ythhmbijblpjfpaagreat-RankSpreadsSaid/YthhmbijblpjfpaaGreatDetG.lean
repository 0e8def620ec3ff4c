/- A region that draws its order, some of whose values hang on what a call or an append gives: a rule with a ghost. -/
import Derived.Test.YthhmbijblpjfpaaGreatDet
namespace Go.Proofs.YthhmbijblpjfpaaGreat
open Go.RowKit

section
variable {Γ : Type} {P : Program} {ops : Array Oper} {a0 : Act} {val : Γ → Nat → Value} {W : Γ → (Nat → Bool) → World → Prop} {Q : Exit → Act → World → Prop}

/-- What operation i owes under the ghost c: it may choose the ghost anew, but for what is done. -/
def StepG (P : Program) (ops : Array Oper) (val : Γ → Nat → Value) (W : Γ → (Nat → Bool) → World → Prop) (c : Γ) (A : Act) (i : Nat) (o : Oper) : Prop :=
  ∀ (L : Nat → Bool) (w : World), W c L w → L i = false → (∀ j, dep ops i j = true → L j = true) → (∀ j, dep ops j i = true → L j = false) → (∀ j k, L j = true → dep ops j k = true → L k = true) →
    Region.wanted o (yielded ops A.tmps) = true ∧ ∃ R : Value → World → Prop, o.wp P A w (fun a' w' => ∃ v, a' = A.put o.dst v ∧ R v w') NoQ ∧
      ∀ v w', R v w' → ∃ c', (∀ j, L j = true → val c' j = val c j) ∧ val c' i = v ∧ W c' (fun j => j == i || L j) w'

theorem wp_transferG {o : Oper} {A a : Act} {w : World} {R : Value → World → Prop} (hs : a.tmps.size = A.tmps.size) (he : execOp A.eval o = execOp a.eval o)
    (h : o.wp P A w (fun a' w' => ∃ v, a' = A.put o.dst v ∧ R v w') NoQ) : o.wp P a w (fun a' w' => ∃ v, a' = a.put o.dst v ∧ R v w') Q := by
  unfold Oper.wp at *
  rw [← he]
  generalize (execOp A.eval o).run P w = r at *
  cases r with
  | ok n w' =>
    cases n <;> simp only [Oper.upon] at h ⊢
    case value u => obtain ⟨v, h1, h2⟩ := h; exact ⟨v, put_inj a A _ _ _ hs h1, h2⟩
    case skip => obtain ⟨v, h1, h2⟩ := h; exact ⟨v, put_inj a A _ _ _ hs h1, h2⟩
    case defer d =>
      obtain ⟨v, h1, h2⟩ := h
      have := congrArg Act.defers h1
      rw [put_defers, put_defers] at this
      exact absurd this (by simp)
    case enter f args =>
      refine Calls.mono h fun e w'' he => ?_
      cases e with
      | returned u => obtain ⟨v, h1, h2⟩ := he; exact ⟨v, put_inj a A _ _ _ hs h1, h2⟩
      | panicked c => exact he.elim
      | outgrown => obtain ⟨_, _, hf⟩ := he; exact hf.elim
    case row row args => exact Rows.mono h fun u w'' he => by obtain ⟨v, h1, h2⟩ := he; exact ⟨v, put_inj a A _ _ _ hs h1, h2⟩
  | halt x w' => cases x <;> simp only [Oper.upon] at h ⊢ <;> exact h.elim

theorem DetInv.other {L : Array Bool} {a : Act} {f g : Nat → Value} (h : DetInv ops a0 f L a) (hfg : ∀ j, L.getD j false = true → g j = f j) : DetInv ops a0 g L a :=
  ⟨h.size, h.closed, h.tsize, h.defers, fun j o d h1 h2 h3 h4 => by rw [hfg j h3]; exact h.done j o d h1 h2 h3 h4, h.free⟩

theorem detG_any (hok : detOk ops = true) (hstep : ∀ c i o, ops[i]? = some o → StepG P ops val W c (upTo ops (val c) a0 i) i o)
    (hQ : ∀ (c : Γ) (L : Nat → Bool) w, (∀ j, j < ops.size → L j = true) → W c L w → Q .normal (upTo ops (val c) a0 ops.size) w) :
    ∀ (fuel : Nat) (c : Γ) (L : Array Bool) (a : Act) (w : World), L.toList.count false ≤ fuel → DetInv ops a0 (val c) L a → W c (fun j => L.getD j false) w → wpAny P .any ops Q fuel L a w := by
  obtain ⟨hsel, hback, hsp⟩ := detOk_spec hok
  have hdis : ∀ (i j : Nat) (o o' : Oper) (d : Tmp), ops[i]? = some o → ops[j]? = some o' → o'.dst = some d → i = j ∨ o.dst ≠ some d := fun i j o o' d h1 h2 h3 => (hsp i j o o' d h1 h2 h3).1
  have hend : ∀ (c : Γ) (L : Array Bool) (a : Act) (w : World), DetInv ops a0 (val c) L a → W c (fun j => L.getD j false) w → Region.ready .any ops L = [] → Q .normal a w := by
    intro c L a w h hW hr
    have hall : ∀ i, i < ops.size → L.getD i false = true := by
      intro i
      induction i using Nat.strongRecOn with
      | ind i ih =>
        intro hi
        cases hL : L.getD i false with
        | true => rfl
        | false =>
          have : i ∈ Region.ready .any ops L := mem_ready.2 ⟨by
            have hlt : i < L.size := by rw [h.size]; exact hi
            simp only [Array.getD, hlt, dif_pos] at hL ⊢
            exact hL, ops[i], Array.getElem?_eq_getElem hi, fun e he hb => ih e.on (hback i _ (Array.getElem?_eq_getElem hi) e he hb) (by have := hback i _ (Array.getElem?_eq_getElem hi) e he hb; omega)⟩
          rw [hr] at this
          cases this
    have ha : a = upTo ops (val c) a0 ops.size := by
      have ht : a.tmps = (upTo ops (val c) a0 ops.size).tmps := by
        apply Array.ext_getElem?
        intro d
        by_cases hex : ∃ (j : Nat) (o' : Oper), ops[j]? = some o' ∧ o'.dst = some d
        · obtain ⟨j, o', ho', hd⟩ := hex
          have hj : j < ops.size := (Array.getElem?_eq_some_iff.1 ho').1
          by_cases hs : d < a0.tmps.size
          · rw [h.done j o' d ho' hd (hall j hj) hs, upTo_done hdis ho' hd hs _ hj]
          · rw [Array.getElem?_eq_none (by rw [h.tsize]; exact Nat.le_of_not_lt hs), Array.getElem?_eq_none (by rw [upTo_size]; exact Nat.le_of_not_lt hs)]
        · rw [h.free d (fun k ok hok' _ hdk => hex ⟨k, ok, hok', hdk⟩), upTo_free d _ (fun k ok _ hok' hdk => hex ⟨k, ok, hok', hdk⟩)]
      have hdf : a.defers = (upTo ops (val c) a0 ops.size).defers := by rw [h.defers, upTo_defers]
      cases a
      cases hu : upTo ops (val c) a0 ops.size
      rw [hu] at ht hdf
      simp only at ht hdf
      rw [ht, hdf]
    rw [ha]
    exact hQ c _ w hall hW
  intro fuel
  induction fuel with
  | zero =>
    intro c L a w hc h hW
    have hr : Region.ready .any ops L = [] := by
      apply List.eq_nil_iff_forall_not_mem.2
      intro i hi
      have h1 := (mem_ready.1 hi).1
      have hlt : i < L.size := by
        rcases Nat.lt_or_ge i L.size with h2 | h2
        · exact h2
        · simp [Array.getD, Nat.not_lt.2 h2] at h1
      have h2 : false ∈ L.toList := by
        simp only [Array.getD, hlt, dif_pos] at h1
        rw [← h1]
        exact Array.getElem_mem_toList hlt
      have := List.count_pos_iff.2 h2
      omega
    exact ⟨hr, hend c L a w h hW hr⟩
  | succ fuel ih =>
    intro c L a w hc h hW
    refine ⟨hend c L a w h hW, fun i hi => ?_⟩
    obtain ⟨h1, o, ho, hdep⟩ := mem_ready.1 hi
    have hlt : i < L.size := by rw [h.size]; exact (Array.getElem?_eq_some_iff.1 ho).1
    have hLi : L[i] = false := by simpa [Array.getD, hlt] using h1
    have hLf : L.getD i false = false := by simp [Array.getD, hlt, hLi]
    have hdeps : ∀ j, dep ops i j = true → L.getD j false = true := fun j hj => by
      obtain ⟨e, he, hb, rfl⟩ := mem_of_dep ho hj
      exact hdep e he hb
    have hag := h.agree hok ho hLf hdeps
    have hev : ∀ x ∈ o.op.operands, (upTo ops (val c) a0 i).eval x = a.eval x := by
      intro x hx
      cases x with
      | tmp t =>
        have := hag t (by
          unfold Oper.looksAt
          rw [List.mem_append]
          exact .inl (List.mem_filterMap.2 ⟨.tmp t, by simpa using hx, rfl⟩))
        simp only [Act.eval, Array.getD_eq_getD_getElem?]
        rw [this]
      | const v => rfl
      | global g => rfl
      | func f => rfl
    have hexec : execOp (upTo ops (val c) a0 i).eval o = execOp a.eval o := execOp_congr o (fun cs b => Region.noSelect_spec hsel i o cs b ho) hev
    have hwant : Region.wanted o (yielded ops (upTo ops (val c) a0 i).tmps) = Region.wanted o (yielded ops a.tmps) := by
      unfold Region.wanted
      cases hg : o.guard with
      | none => rfl
      | some p =>
        obtain ⟨g, want⟩ := p
        simp only [yielded]
        cases hd : (ops[g]?).bind (·.dst) with
        | none => rfl
        | some d =>
          have := hag d (by unfold Oper.looksAt; rw [List.mem_append]; right; simp [hg, hd])
          simp only [Option.bind_some]
          rw [this]
    have hW' : ∀ c' w', W c' (fun j => j == i || L.getD j false) w' → W c' (fun j => (L.setIfInBounds i true).getD j false) w' := by
      intro c' w' hw
      have : (fun j => (L.setIfInBounds i true).getD j false) = fun j => j == i || L.getD j false := funext fun j => getD_set L i j hlt
      rw [this]
      exact hw
    have hcount : (L.setIfInBounds i true).toList.count false ≤ fuel := by
      rw [Array.toList_setIfInBounds, List.count_set (by simpa using hlt)]
      have hpos : 0 < L.toList.count false := List.count_pos_iff.2 (by rw [← hLi]; exact Array.getElem_mem_toList hlt)
      have e1 : (if (L.toList[i]'(by simpa using hlt) == false) = true then 1 else 0) = 1 := by simp [hLi]
      have e2 : (if ((true : Bool) == false) = true then 1 else 0) = 0 := rfl
      rw [e1, e2]
      omega
    obtain ⟨hw, R, hwp, hR⟩ := hstep c i o ho (fun j => L.getD j false) w hW hLf hdeps (fun j hj => by
      cases hL : L.getD j false with
      | false => rfl
      | true => have := h.closed j i hL hj; rw [hLf] at this; cases this) (fun j k hL hj => h.closed j k hL hj)
    unfold wpOp
    rw [ho]
    simp only
    rw [if_pos (by rw [← hwant]; exact hw)]
    refine .inl (Oper.wp_mono (fun a' w' ⟨v, ha', hv⟩ => ?_) (wp_transferG (Q := Q) (by rw [h.tsize, upTo_size]) hexec hwp))
    obtain ⟨c', h1', h2', h3'⟩ := hR v w' hv
    have hd' : DetInv ops a0 (val c') L a := h.other h1'
    rw [ha', ← h2']
    exact ih c' _ _ _ hcount (hd'.step hok ho hLf hdeps) (hW' c' w' h3')

/-- THE RULE. -/
theorem wp_region_ghost {id : Nat} {w : World} {l : List Oper} (hm : P.follows .mixedOrders = true) (S : List Nat) (vals : Γ → List Value) (V : Γ → List Bool → World → Prop) (hok : detOk l.toArray = true)
    (c0 : Γ) (hW : V c0 (S.map fun _ => false) w.drew)
    (hstep : ∀ c i o, l[i]? = some o → StepG P l.toArray (fun c j => (vals c).getD j undef) (fun c L => V c (S.map L)) c (upTo l.toArray (fun j => (vals c).getD j undef) a0 i) i o)
    (hQ : ∀ c w', V c (S.map fun _ => true) w' → Q .normal (upTo l.toArray (fun j => (vals c).getD j undef) a0 l.length) w') (hSl : ∀ j ∈ S, j < l.length) : (Code.region id l.toArray true).wp P Q a0 w := by
  refine wp_region_any hm (detG_any (a0 := a0) (val := fun c j => (vals c).getD j undef) (W := fun c L => V c (S.map L)) hok (fun c i o ho => hstep c i o (by simpa using ho)) (fun c L w' hL hw => ?_) _ c0 _ _ _ ?_ ?_ ?_)
  · have : S.map L = S.map fun _ => true := List.map_congr_left fun j hj => hL j (by simpa using hSl j hj)
    rw [this] at hw
    have := hQ c w' hw
    simpa using this
  · simp [List.count_replicate]
  · refine ⟨by simp, fun i j hi _ => ?_, rfl, rfl, fun j o d _ _ hL _ => ?_, fun d _ => rfl⟩
    · exfalso
      simp [Array.getD] at hi
    · exfalso
      simp [Array.getD] at hL
  · have : (S.map fun j => (Array.replicate l.toArray.size false).getD j false) = S.map fun _ => false := List.map_congr_left fun j _ => by simp [Array.getD]
    rw [this]
    exact hW

abbrev WofG (S : List Nat) (V : Γ → List Bool → World → Prop) : Γ → (Nat → Bool) → World → Prop := fun c L => V c (S.map L)
abbrev ValG (vals : Γ → List Value) : Γ → Nat → Value := fun c j => (vals c).getD j undef
def stepsG (P : Program) (ops : Array Oper) (val : Γ → Nat → Value) (W : Γ → (Nat → Bool) → World → Prop) (c : Γ) : Nat → List Oper → Act → (Act → Prop) → Prop
  | _, [], A, fin => fin A
  | i, o :: rest, A, fin => StepG P ops val W c A i o ∧ stepsG P ops val W c (i + 1) rest (A.put o.dst (val c i)) fin
theorem stepsG_spec {c : Γ} {fin : Act → Prop} : ∀ (rest : List Oper) (i : Nat), (∀ k, rest[k]? = ops[i + k]?) → i + rest.length = ops.size → stepsG P ops val W c i rest (upTo ops (val c) a0 i) fin →
    (∀ k o, ops[i + k]? = some o → StepG P ops val W c (upTo ops (val c) a0 (i + k)) (i + k) o) ∧ fin (upTo ops (val c) a0 ops.size)
  | [], i, hr, hn, h => by
    refine ⟨fun k o ho => ?_, ?_⟩
    · have := hr k
      rw [ho] at this
      simp at this
    · have : ops.size = i := by simpa using hn.symm
      rw [this]
      exact h
  | o :: rest, i, hr, hn, h => by
    obtain ⟨h1, h2⟩ := h
    have ho : ops[i]? = some o := by simpa using (hr 0).symm
    have hA : (upTo ops (val c) a0 i).put o.dst (val c i) = upTo ops (val c) a0 (i + 1) := by
      conv => rhs; unfold upTo
      rw [ho]
    rw [hA] at h2
    obtain ⟨h3, h4⟩ := stepsG_spec rest (i + 1) (fun k => by have := hr (k + 1); simpa [Nat.add_assoc, Nat.add_comm 1 k] using this) (by simp at hn; omega) h2
    refine ⟨fun k ok hok => ?_, h4⟩
    cases k with
    | zero =>
      have : ok = o := by
        simp only [Nat.add_zero] at hok
        rw [ho] at hok
        injection hok with hok
        exact hok.symm
      subst this
      exact h1
    | succ k =>
      have := h3 k ok (by rw [← hok]; congr 1; omega)
      rw [show i + 1 + k = i + (k + 1) from by omega] at this
      exact this
/-- THE RULE, walked in the text's order. -/
theorem wp_region_ghosts {id : Nat} {w : World} {l : List Oper} (hm : P.follows .mixedOrders = true) (S : List Nat) (vals : Γ → List Value) (V : Γ → List Bool → World → Prop) (hok : detOk l.toArray = true)
    (hSl : (S.all fun j => decide (j < l.length)) = true) (c0 : Γ) (hW : V c0 (S.map fun _ => false) w.drew)
    (h : ∀ c, stepsG P l.toArray (ValG vals) (WofG S V) c 0 l a0 fun A => ∀ w', V c (S.map fun _ => true) w' → Q .normal A w') : (Code.region id l.toArray true).wp P Q a0 w := by
  have hs := fun c => stepsG_spec (P := P) (ops := l.toArray) (val := fun c j => (vals c).getD j undef) (W := fun c L => V c (S.map L)) (c := c) (a0 := a0) l 0 (by simp) (by simp) (h c)
  refine wp_region_ghost hm S vals V hok c0 hW (fun c i o ho => ?_) (fun c w' hV => ?_) (fun j hj => ?_)
  · have := (hs c).1 i o (by rw [Nat.zero_add]; simpa using ho)
    rw [Nat.zero_add] at this
    exact this
  · have := (hs c).2 w' hV
    simpa using this
  · have := List.all_eq_true.1 hSl j hj
    simpa using this
theorem stepG_p {ops : Array Oper} {vals : Γ → Nat → Value} {S : List Nat} {V : Γ → List Bool → World → Prop} {c : Γ} {i : Nat} {o : Oper} {rest : List Oper} {A : Act} {fin : Act → Prop} (hg : Region.wanted o (yielded ops A.tmps) = true) (hS : S.contains i = false)
    (hrun : ∀ w, (execOp A.eval o).run P w = .ok (.value (vals c i)) w) (h : stepsG P ops vals (WofG S V) c (i + 1) rest (A.put o.dst (vals c i)) fin) : stepsG P ops vals (WofG S V) c i (o :: rest) A fin :=
  ⟨fun L w hW _ _ _ _ => ⟨hg, fun u w' => u = vals c i ∧ w' = w, by unfold Oper.wp; rw [hrun w]; exact ⟨_, rfl, rfl, rfl⟩, fun v w' ⟨h1, h2⟩ => ⟨c, fun _ _ => rfl, h1.symm, by rw [h2]; show V c (S.map _) w; rw [map_far S i L hS]; exact hW⟩⟩, h⟩
theorem stepG_r {ops : Array Oper} {vals : Γ → Nat → Value} {S : List Nat} {V : Γ → List Bool → World → Prop} {c : Γ} {i : Nat} {o : Oper} {rest : List Oper} {A : Act} {fin : Act → Prop} (hg : Region.wanted o (yielded ops A.tmps) = true) (hS : S.contains i = false)
    (hrun : ∀ (L : Nat → Bool) w, V c (S.map L) w → (∀ j, dep ops j i = true → L j = false) → (∀ j k, L j = true → dep ops j k = true → L k = true) → (execOp A.eval o).run P w = .ok (.value (vals c i)) w) (h : stepsG P ops vals (WofG S V) c (i + 1) rest (A.put o.dst (vals c i)) fin) : stepsG P ops vals (WofG S V) c i (o :: rest) A fin :=
  ⟨fun L w hW _ _ hn hcl => ⟨hg, fun u w' => u = vals c i ∧ w' = w, by unfold Oper.wp; rw [hrun L w hW hn hcl]; exact ⟨_, rfl, rfl, rfl⟩, fun v w' ⟨h1, h2⟩ => ⟨c, fun _ _ => rfl, h1.symm, by rw [h2]; show V c (S.map _) w; rw [map_far S i L hS]; exact hW⟩⟩, h⟩
end
end Go.Proofs.YthhmbijblpjfpaaGreat
