/- 'append(nil, tasks...)': a row of the call's own. -/
import Derived.Test.YthhmbijblpjfpaaGreatFind
import Derived.Laws.AppendOwnNone
namespace Go.Proofs.YthhmbijblpjfpaaGreat
open Go.RowKit

theorem flat_rev {α : Type} (enc : α → List Value) (k : Nat) (hk0 : 0 < k) (hk : ∀ x, (enc x).length = k) : ∀ (l : List α) (j : Nat) (u : Value), (l.flatMap enc)[j]? = some u → ∃ i r, i < l.length ∧ r < k ∧ j = i * k + r ∧ ∃ x, l[i]? = some x ∧ (enc x)[r]? = some u
  | [], j, u, h => by simp at h
  | x :: xs, j, u, h => by
    rw [List.flatMap_cons] at h
    by_cases hj : j < k
    · rw [List.getElem?_append_left (by rw [hk]; exact hj)] at h
      exact ⟨0, j, by simp, hj, by omega, x, rfl, h⟩
    · rw [List.getElem?_append_right (by rw [hk]; omega), hk] at h
      obtain ⟨i, r, h1, h2, h3, y, h4, h5⟩ := flat_rev enc k hk0 hk xs (j - k) u h
      exact ⟨i + 1, r, by simpa using h1, h2, by rw [Nat.succ_mul]; omega, y, by simpa using h4, h5⟩
theorem news_of_tsks {w : World} {ad : Addr} {l : List Tsk} (h : RowsAt w 7 (some ad) (l.map Tsk.row)) : ∀ j u, (l.flatMap Tsk.row)[j]? = some u → w.cell? (ad.add j) = some u := by
  intro j u hj
  obtain ⟨i, r, h1, h2, rfl, x, h3, h4⟩ := flat_rev Tsk.row 7 (by decide) (fun _ => rfl) l j u hj
  obtain ⟨ad', he, _, hc⟩ := h.at_ (i := i) (by simpa using h1)
  injection he with he
  subst he
  have hx : (l.map Tsk.row)[i]'(by simpa using h1) = Tsk.row x := by
    rw [List.getElem?_eq_getElem h1] at h3
    injection h3 with h3
    simp [h3]
  rw [hx] at hc
  have := hc r u h4
  rwa [addAdd] at this
theorem flat_len7 : ∀ l : List Tsk, (l.flatMap Tsk.row).length = l.length * 7
  | [] => rfl
  | x :: xs => by rw [List.flatMap_cons, List.length_append, flat_len7 xs, List.length_cons]; simp; omega
theorem tsks_none {w : World} {l : List Tsk} (h : TsksAt w none l) : l = [] := by
  cases l with
  | nil => rfl
  | cons x xs =>
    obtain ⟨ad, _, he, _⟩ := h.at_ (k := 0) (by simp)
    cases he
theorem wpList_append_tsks {ops : Array Oper} {rest : List Oper} {o : Oper} {a : Act} {w : World} {Q : Exit → Act → World → Prop} (hgd : o.guard = none) (x : Operand)
    (ho : o.op = .call { callee := .builtin .append, args := #[.const (.slice none 0 0), x], argTypes := #[23, 23] }) (base : Nat)
    (A : Option Addr) (n c : Nat) (l : List Tsk) (hx : a.eval x = .slice A n c) (hn : n = l.length) (hl : l.length ≤ 1000000) (hT : TsksAt w A l) (hnil : A = none → c = 0) (hbase : base ≤ w.heap.size)
    (h : ∀ A1 c1 w', w'.ownsRow base 36 7 (.slice A1 l.length c1) l.length (l.flatMap Tsk.row) → w.grownBy w' none → wpList Tryz.prog ops Q rest (a.put o.dst (.slice A1 l.length c1)) w') :
    wpList Tryz.prog ops Q (o :: rest) a w := by
  obtain ⟨i0, hi0, hz0, hz1, hz2⟩ := info_parts tsk_info
  subst hn
  cases A with
  | none =>
    obtain rfl := tsks_none hT
    obtain rfl := hnil rfl
    exact wpList_append_own_none hgd (.const (.slice none 0 0)) x 23 ho base 36 i0 7 Tryz.underlying23 hi0 (.slice none 0 0) 0 [] rfl (World.ownsRow_nil _ _ _ _) hx
      (h none 0 w (World.ownsRow_nil _ _ _ _) ⟨rfl, rfl, rfl, Nat.le_refl _, fun _ _ _ => rfl⟩)
  | some ad =>
    refine wpList_append_own_at _ hgd (.const (.slice none 0 0)) x 23 ho base 36 i0 _ 7 80 Tryz.underlying23 hi0 hz0 hz1 hz2 rfl (by omega) (.slice none 0 0) 0 [] rfl (World.ownsRow_nil _ _ _ _)
      ad l.length c (l.flatMap Tsk.row) hx (flat_len7 l) (news_of_tsks hT.rows) ?_ (by simp only [maxLen]; omega) (by omega) hbase ?_
    · intro u hu
      obtain ⟨t, _, ht⟩ := List.mem_flatMap.1 hu
      exact tsk_one t u ht
    · intro v' w' h1 h2 _ _
      simp only [Nat.zero_add, List.nil_append] at h1
      obtain ⟨A1, c1, rfl⟩ := own_shape h1
      exact h A1 c1 w' h1 h2
theorem sta_size : (Tryz.prog.info? 25).map (·.size) = some 2 := by kernel_rfl
end Go.Proofs.YthhmbijblpjfpaaGreat
