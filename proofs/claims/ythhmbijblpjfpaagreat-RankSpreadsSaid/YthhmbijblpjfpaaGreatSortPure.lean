/- The stable sort sorts: plain lists. -/
import Derived.Test.YthhmbijblpjfpaaGreatSortDef
namespace Go.Proofs.YthhmbijblpjfpaaGreat

section
variable {α : Type} [Inhabited α]

theorem gt_lt {l : List α} {i : Nat} (h : i < l.length) : gt l i = l[i] := by simp [gt, List.getD, h]
theorem gt_swp (l : List α) (i j k : Nat) (hi : i < l.length) (hj : j < l.length) : gt (swp l i j) k = if k = j then gt l i else if k = i then gt l j else gt l k := by
  unfold swp
  by_cases hk : k < l.length
  · have h1 : gt ((l.set i (gt l j)).set j (gt l i)) k = ((l.set i (gt l j)).set j (gt l i))[k]'(by simpa using hk) := gt_lt _
    rw [h1, List.getElem_set, List.getElem_set]
    by_cases h2 : j = k
    · subst h2; simp
    · have h2' : ¬ k = j := fun e => h2 e.symm
      by_cases h3 : i = k
      · subst h3; simp [h2, h2']
      · have h3' : ¬ k = i := fun e => h3 e.symm
        rw [if_neg h2, if_neg h3, if_neg h2', if_neg h3', gt_lt hk]
  · rw [if_neg (by omega), if_neg (by omega)]
    have e : ∀ (q : List α), ¬ k < q.length → gt q k = default := fun q hq => by simp [gt, List.getD, List.getElem?_eq_none (Nat.le_of_not_lt hq)]
    rw [e _ (by simpa using hk), e l hk]
theorem swp_perm (l : List α) (i j : Nat) (hi : i < l.length) (hj : j < l.length) : (swp l i j).Perm l := by
  have h : swp l i j = (l.toArray.swap i j (by simpa using hi) (by simpa using hj)).toList := by
    unfold swp
    rw [gt_lt hi, gt_lt hj]
    simp [Array.swap]
  rw [h]
  have := Array.swap_perm (xs := l.toArray) (i := i) (j := j) (by simpa using hi) (by simpa using hj)
  exact this.toList

/-- what exchanges within [a, b) leave -/
structure Good (l l' : List α) (a b : Nat) : Prop where
  len : l'.length = l.length
  out : ∀ k, (k < a ∨ b ≤ k) → gt l' k = gt l k
  inn : ∀ k, a ≤ k → k < b → ∃ k', a ≤ k' ∧ k' < b ∧ gt l' k = gt l k'
  perm : l'.Perm l
theorem Good.rfl' (l : List α) (a b : Nat) : Good l l a b := ⟨rfl, fun _ _ => rfl, fun k h1 h2 => ⟨k, h1, h2, rfl⟩, List.Perm.refl _⟩
theorem Good.tr {l l1 l2 : List α} {a b : Nat} (h : Good l l1 a b) (k : Good l1 l2 a b) : Good l l2 a b :=
  ⟨k.len.trans h.len, fun q hq => (k.out q hq).trans (h.out q hq), fun q h1 h2 => by
    obtain ⟨q', h3, h4, h5⟩ := k.inn q h1 h2
    obtain ⟨q'', h6, h7, h8⟩ := h.inn q' h3 h4
    exact ⟨q'', h6, h7, h5.trans h8⟩, k.perm.trans h.perm⟩
theorem Good.wide {l l' : List α} {a b a' b' : Nat} (h : Good l l' a b) (ha : a' ≤ a) (hb : b ≤ b') : Good l l' a' b' :=
  ⟨h.len, fun k hk => h.out k (by omega), fun k h1 h2 => by
    by_cases hin : a ≤ k ∧ k < b
    · obtain ⟨k', h3, h4, h5⟩ := h.inn k hin.1 hin.2
      exact ⟨k', by omega, by omega, h5⟩
    · exact ⟨k, h1, h2, h.out k (by omega)⟩, h.perm⟩
theorem Good.swp {l : List α} {i j a b : Nat} (hi : a ≤ i ∧ i < b) (hj : a ≤ j ∧ j < b) (hb : b ≤ l.length) : Good l (Go.Proofs.YthhmbijblpjfpaaGreat.swp l i j) a b := by
  have h1 : i < l.length := by omega
  have h2 : j < l.length := by omega
  refine ⟨swp_len _ _ _, fun k hk => ?_, fun k h3 h4 => ?_, swp_perm l i j h1 h2⟩
  · rw [gt_swp l i j k h1 h2, if_neg (by omega), if_neg (by omega)]
  · rw [gt_swp l i j k h1 h2]
    by_cases e1 : k = j
    · exact ⟨i, hi.1, hi.2, by rw [if_pos e1]⟩
    · by_cases e2 : k = i
      · exact ⟨j, hj.1, hj.2, by rw [if_neg e1, if_pos e2]⟩
      · exact ⟨k, h3, h4, by rw [if_neg e1, if_neg e2]⟩

variable {lt : α → α → Bool}
/-- strict, with ties that hand on -/
structure Weak (lt : α → α → Bool) : Prop where
  asym : ∀ x y, lt x y = true → lt y x = false
  ntr : ∀ x y z, lt y x = false → lt z y = false → lt z x = false
/-- sorted in [a, b) -/
def Sd (lt : α → α → Bool) (l : List α) (a b : Nat) : Prop := ∀ i j, a ≤ i → i < j → j < b → lt (gt l j) (gt l i) = false
theorem Sd.one (l : List α) (a b : Nat) (h : b ≤ a + 1) : Sd lt l a b := fun i j h1 h2 h3 => by omega
theorem Sd.sub {l : List α} {a b a' b' : Nat} (h : Sd lt l a b) (ha : a ≤ a') (hb : b' ≤ b) : Sd lt l a' b' := fun i j h1 h2 h3 => h i j (by omega) h2 (by omega)
theorem Sd.congr {l l' : List α} {a b : Nat} (h : Sd lt l a b) (e : ∀ k, a ≤ k → k < b → gt l' k = gt l k) : Sd lt l' a b :=
  fun i j h1 h2 h3 => by rw [e i h1 (by omega), e j (by omega) h3]; exact h i j h1 h2 h3

theorem insIn_good (a b : Nat) : ∀ (j : Nat) (l : List α), j < b → b ≤ l.length → Good l (insIn lt a j l) a b
  | 0, l, _, _ => Good.rfl' _ _ _
  | j + 1, l, h, hb => by
    unfold insIn
    split
    · rename_i hc
      exact (Good.swp ⟨by omega, h⟩ ⟨by omega, by omega⟩ hb).tr (insIn_good a b j _ (by omega) (by rw [swp_len]; exact hb))
    · exact Good.rfl' _ _ _
theorem insIn_sd (hw : Weak lt) (a i : Nat) : ∀ (j : Nat) (l : List α), a ≤ j → j ≤ i → i < l.length → (∀ x y, a ≤ x → x < y → y ≤ i → y ≠ j → lt (gt l y) (gt l x) = false) → Sd lt (insIn lt a j l) a (i + 1)
  | 0, l, ha, _, _, h => by
    intro x y h1 h2 h3
    exact h x y h1 h2 (by omega) (by omega)
  | j + 1, l, ha, hji, hl, h => by
    unfold insIn
    split
    · rename_i hc
      refine insIn_sd hw a i j _ (by omega) (by omega) (by rw [swp_len]; exact hl) fun x y h1 h2 h3 h4 => ?_
      rw [gt_swp l (j + 1) j y (by omega) (by omega), gt_swp l (j + 1) j x (by omega) (by omega)]
      by_cases e1 : y = j + 1
      · rw [if_neg h4, if_pos e1]
        by_cases e2 : x = j
        · rw [if_pos e2]
          exact hw.asym _ _ hc.2
        · rw [if_neg e2, if_neg (by omega)]
          exact h x j h1 (by omega) (by omega) (by omega)
      · rw [if_neg h4, if_neg e1]
        by_cases e2 : x = j
        · rw [if_pos e2]
          exact h (j + 1) y (by omega) (by omega) h3 (by omega)
        · rw [if_neg e2]
          by_cases e3 : x = j + 1
          · rw [if_pos e3]
            exact h j y (by omega) (by omega) h3 (by omega)
          · rw [if_neg e3]
            exact h x y h1 h2 h3 e1
    · rename_i hc
      intro x y h1 h2 h3
      by_cases e1 : y = j + 1
      · subst e1
        have haj : a < j + 1 := by omega
        have hlt : lt (gt l (j + 1)) (gt l j) = false := by
          cases hq : lt (gt l (j + 1)) (gt l j) with
          | false => rfl
          | true => exact absurd ⟨haj, hq⟩ hc
        by_cases e2 : x = j
        · subst e2; exact hlt
        · exact hw.ntr _ _ _ (h x j h1 (by omega) (by omega) (by omega)) hlt
      · exact h x y h1 h2 (by omega) e1
theorem insOut_spec (hw : Weak lt) (a b : Nat) : ∀ (d i : Nat) (l : List α), b - i = d → a ≤ i → b ≤ l.length → Sd lt l a i → Good l (insOut lt a b i l) a b ∧ Sd lt (insOut lt a b i l) a b
  | 0, i, l, hd, ha, hb, hs => by
    rw [insOut, if_neg (by omega)]
    exact ⟨Good.rfl' _ _ _, hs.sub (Nat.le_refl _) (by omega)⟩
  | d + 1, i, l, hd, ha, hb, hs => by
    rw [insOut, if_pos (by omega)]
    have h1 : Good l (insIn lt a i l) a b := insIn_good a b i l (by omega) hb
    have h2 : Sd lt (insIn lt a i l) a (i + 1) := insIn_sd hw a i i l ha (Nat.le_refl _) (by omega) fun x y hx hxy hy hne => hs x y hx hxy (by omega)
    have := insOut_spec hw a b d (i + 1) _ (by omega) (by omega) (by rw [h1.len]; exact hb) h2
    exact ⟨h1.tr this.1, this.2⟩
theorem insSort_spec (hw : Weak lt) (a b : Nat) (l : List α) (hb : b ≤ l.length) : Good l (insSort lt a b l) a b ∧ Sd lt (insSort lt a b l) a b :=
  insOut_spec hw a b _ (a + 1) l rfl (by omega) hb (Sd.one _ _ _ (Nat.le_refl _))

theorem swR_spec (p q n : Nat) : ∀ (d k : Nat) (l : List α), n - k = d → p + n ≤ q → q + n ≤ l.length → (∀ t, k ≤ t → t < n → gt (swR p q n k l) (p + t) = gt l (q + t) ∧ gt (swR p q n k l) (q + t) = gt l (p + t)) ∧
    (∀ t, (∀ s, k ≤ s → s < n → t ≠ p + s ∧ t ≠ q + s) → gt (swR p q n k l) t = gt l t) ∧ Good l (swR p q n k l) p (q + n)
  | 0, k, l, hd, h1, h2 => by
    rw [swR, if_neg (by omega)]
    exact ⟨fun t ht1 ht2 => by omega, fun t _ => rfl, Good.rfl' _ _ _⟩
  | d + 1, k, l, hd, h1, h2 => by
    rw [swR, if_pos (by omega)]
    have hg : Good l (swp l (p + k) (q + k)) p (q + n) := Good.swp ⟨by omega, by omega⟩ ⟨by omega, by omega⟩ h2
    obtain ⟨i1, i2, i3⟩ := swR_spec p q n d (k + 1) (swp l (p + k) (q + k)) (by omega) h1 (by rw [swp_len]; exact h2)
    refine ⟨fun t ht1 ht2 => ?_, fun t ht => ?_, hg.tr i3⟩
    · by_cases e : t = k
      · subst e
        rw [i2 (p + t) (fun s hs1 hs2 => ⟨by omega, by omega⟩), i2 (q + t) (fun s hs1 hs2 => ⟨by omega, by omega⟩), gt_swp _ _ _ _ (by omega) (by omega), gt_swp _ _ _ _ (by omega) (by omega)]
        rw [if_neg (by omega), if_pos rfl, if_pos rfl]
        exact ⟨rfl, rfl⟩
      · obtain ⟨j1, j2⟩ := i1 t (by omega) ht2
        rw [j1, j2, gt_swp _ _ _ _ (by omega) (by omega), gt_swp _ _ _ _ (by omega) (by omega)]
        rw [if_neg (by omega), if_neg (by omega), if_neg (by omega), if_neg (by omega)]
        exact ⟨rfl, rfl⟩
    · have h3 := ht k (Nat.le_refl _) (by omega)
      rw [i2 t (fun s hs1 hs2 => ht s (by omega) hs2), gt_swp _ _ _ _ (by omega) (by omega), if_neg h3.2, if_neg h3.1]
theorem rotL_spec (m : Nat) : ∀ (d i j : Nat) (l : List α), i + j ≤ d → 0 < i → 0 < j → i ≤ m → m + j ≤ l.length → (∀ t, t < j → gt (rotL m i j l) (m - i + t) = gt l (m + t)) ∧ (∀ t, t < i → gt (rotL m i j l) (m - i + j + t) = gt l (m - i + t)) ∧
    Good l (rotL m i j l) (m - i) (m + j)
  | 0, i, j, l, hd, hi, hj, _, _ => by omega
  | d + 1, i, j, l, hd, hi, hj, him, hl => by
    rw [rotL, dif_neg (by omega)]
    by_cases e1 : i = j
    · subst e1
      rw [if_pos rfl]
      obtain ⟨i1, i2, i3⟩ := swR_spec (m - i) m i _ 0 l rfl (by omega) hl
      refine ⟨fun t ht => (i1 t (Nat.zero_le _) ht).1, fun t ht => ?_, i3⟩
      have := (i1 t (Nat.zero_le _) ht).2
      rw [show m - i + i + t = m + t from by omega]
      exact this
    · rw [if_neg e1]
      by_cases e2 : j < i
      · rw [if_pos e2]
        obtain ⟨i1, i2, i3⟩ := swR_spec (m - i) m j _ 0 l rfl (by omega) hl
        obtain ⟨j1, j2, j3⟩ := rotL_spec m d (i - j) j (swR (m - i) m j 0 l) (by omega) (by omega) hj (by omega) (by rw [i3.len]; exact hl)
        refine ⟨fun t ht => ?_, fun t ht => ?_, i3.tr (j3.wide (by omega) (by omega))⟩
        · rw [j3.out _ (.inl (by omega))]
          exact (i1 t (Nat.zero_le _) ht).1
        · by_cases h : t < j
          · have := j1 t h
            rw [show m - (i - j) + t = m - i + j + t from by omega] at this
            rw [this, (i1 t (Nat.zero_le _) h).2]
          · have := j2 (t - j) (by omega)
            rw [show m - (i - j) + j + (t - j) = m - i + j + t from by omega, show m - (i - j) + (t - j) = m - i + t from by omega] at this
            rw [this, i2 _ (fun s hs1 hs2 => ⟨by omega, by omega⟩)]
      · rw [if_neg e2]
        obtain ⟨i1, i2, i3⟩ := swR_spec (m - i) (m + j - i) i _ 0 l rfl (by omega) (by omega)
        have h3 : Good l (swR (m - i) (m + j - i) i 0 l) (m - i) (m + j) := i3.wide (Nat.le_refl _) (by omega)
        obtain ⟨j1, j2, j3⟩ := rotL_spec m d i (j - i) (swR (m - i) (m + j - i) i 0 l) (by omega) hi (by omega) him (by rw [i3.len]; omega)
        refine ⟨fun t ht => ?_, fun t ht => ?_, h3.tr (j3.wide (by omega) (by omega))⟩
        · by_cases h : t < j - i
          · rw [j1 t h, i2 _ (fun s hs1 hs2 => ⟨by omega, by omega⟩)]
          · have := j2 (t - (j - i)) (by omega)
            rw [show m - i + (j - i) + (t - (j - i)) = m - i + t from by omega] at this
            rw [this, (i1 (t - (j - i)) (Nat.zero_le _) (by omega)).1]
            congr 1
            omega
        · rw [j3.out _ (.inr (by omega))]
          have := (i1 t (Nat.zero_le _) ht).2
          rw [show m + j - i + t = m - i + j + t from by omega] at this
          exact this
theorem rot_spec (a m b : Nat) (l : List α) (ham : a < m) (hmb : m < b) (hb : b ≤ l.length) : (∀ k, a ≤ k → k < a + (b - m) → gt (rot a m b l) k = gt l (k - a + m)) ∧ (∀ k, a + (b - m) ≤ k → k < b → gt (rot a m b l) k = gt l (k - (b - m))) ∧ Good l (rot a m b l) a b := by
  obtain ⟨h1, h2, h3⟩ := rotL_spec m _ (m - a) (b - m) l (Nat.le_refl _) (by omega) (by omega) (by omega) (by omega)
  unfold rot
  rw [show m - (m - a) = a from by omega, show m + (b - m) = b from by omega] at h3
  refine ⟨fun k hk1 hk2 => ?_, fun k hk1 hk2 => ?_, h3⟩
  · have := h1 (k - a) (by omega)
    rw [show m - (m - a) + (k - a) = k from by omega] at this
    rw [this]
    congr 1
    omega
  · have := h2 (k - a - (b - m)) (by omega)
    rw [show m - (m - a) + (b - m) + (k - a - (b - m)) = k from by omega] at this
    rw [this]
    congr 1
    omega

theorem bs_spec (p : Nat → Bool) : ∀ (d i j : Nat), j - i ≤ d → i ≤ j → (∀ x y, i ≤ x → x < y → y < j → p y = true → p x = true) →
    i ≤ bs p i j ∧ bs p i j ≤ j ∧ (∀ k, i ≤ k → k < bs p i j → p k = true) ∧ (∀ k, bs p i j ≤ k → k < j → p k = false)
  | 0, i, j, hd, hij, _ => by
    rw [bs, if_neg (by omega)]
    exact ⟨Nat.le_refl _, hij, fun k h1 h2 => by omega, fun k h1 h2 => by omega⟩
  | d + 1, i, j, hd, hij, hm => by
    rw [bs]
    by_cases h : i < j
    · rw [if_pos h]
      by_cases hp : p ((i + j) / 2) = true
      · rw [if_pos hp]
        obtain ⟨h1, h2, h3, h4⟩ := bs_spec p d ((i + j) / 2 + 1) j (by omega) (by omega) (fun x y hx hxy hy => hm x y (by omega) hxy hy)
        refine ⟨by omega, h2, fun k hk1 hk2 => ?_, h4⟩
        by_cases hk : k ≤ (i + j) / 2
        · by_cases e : k = (i + j) / 2
          · rw [e]; exact hp
          · exact hm k ((i + j) / 2) hk1 (by omega) (by omega) hp
        · exact h3 k (by omega) hk2
      · rw [if_neg hp]
        obtain ⟨h1, h2, h3, h4⟩ := bs_spec p d i ((i + j) / 2) (by omega) (by omega) (fun x y hx hxy hy => hm x y hx hxy (by omega))
        refine ⟨h1, by omega, h3, fun k hk1 hk2 => ?_⟩
        by_cases hk : k < (i + j) / 2
        · exact h4 k hk1 hk
        · by_cases e : k = (i + j) / 2
          · rw [e]; simpa using hp
          · cases hq : p k with
            | false => rfl
            | true => exact absurd (hm ((i + j) / 2) k (by omega) (by omega) hk2 hq) hp
    · rw [if_neg h]
      exact ⟨Nat.le_refl _, hij, fun k h1 h2 => by omega, fun k h1 h2 => by omega⟩

theorem upW_spec (e : Nat) : ∀ (d k : Nat) (l : List α), e - k ≤ d → k ≤ e → e < l.length → (∀ t, k ≤ t → t < e → gt (upW e k l) t = gt l (t + 1)) ∧ gt (upW e k l) e = gt l k ∧ Good l (upW e k l) k (e + 1)
  | 0, k, l, hd, hk, _ => by
    obtain rfl : k = e := by omega
    rw [upW, if_neg (by omega)]
    exact ⟨fun t h1 h2 => by omega, rfl, Good.rfl' _ _ _⟩
  | d + 1, k, l, hd, hk, hl => by
    rw [upW]
    by_cases h : k < e
    · rw [if_pos h]
      obtain ⟨h1, h2, h3⟩ := upW_spec e d (k + 1) (swp l k (k + 1)) (by omega) (by omega) (by rw [swp_len]; exact hl)
      have hg : Good l (swp l k (k + 1)) k (e + 1) := Good.swp ⟨by omega, by omega⟩ ⟨by omega, by omega⟩ (by omega)
      refine ⟨fun t ht1 ht2 => ?_, ?_, hg.tr (h3.wide (by omega) (by omega))⟩
      · by_cases e1 : t = k
        · subst e1
          rw [h3.out t (.inl (by omega)), gt_swp _ _ _ _ (by omega) (by omega), if_neg (by omega), if_pos rfl]
        · rw [h1 t (by omega) ht2, gt_swp _ _ _ _ (by omega) (by omega), if_neg (by omega), if_neg (by omega)]
      · rw [h2, gt_swp _ _ _ _ (by omega) (by omega), if_pos rfl]
    · rw [if_neg h]
      obtain rfl : k = e := by omega
      exact ⟨fun t h1 h2 => by omega, rfl, Good.rfl' _ _ _⟩
theorem dnW_spec (i : Nat) : ∀ (k : Nat) (l : List α), i ≤ k → k < l.length → (∀ t, i < t → t ≤ k → gt (dnW i k l) t = gt l (t - 1)) ∧ gt (dnW i k l) i = gt l k ∧ Good l (dnW i k l) i (k + 1)
  | 0, l, hi, _ => by
    obtain rfl : i = 0 := by omega
    exact ⟨fun t h1 h2 => by omega, rfl, Good.rfl' _ _ _⟩
  | k + 1, l, hi, hl => by
    unfold dnW
    by_cases h : i < k + 1
    · rw [if_pos h]
      obtain ⟨h1, h2, h3⟩ := dnW_spec i k (swp l (k + 1) k) (by omega) (by rw [swp_len]; omega)
      have hg : Good l (swp l (k + 1) k) i (k + 2) := Good.swp ⟨by omega, by omega⟩ ⟨by omega, by omega⟩ (by omega)
      refine ⟨fun t ht1 ht2 => ?_, ?_, hg.tr (h3.wide (Nat.le_refl _) (by omega))⟩
      · by_cases e1 : t = k + 1
        · subst e1
          rw [h3.out (k + 1) (.inr (by omega)), gt_swp _ _ _ _ (by omega) (by omega), if_neg (by omega), if_pos rfl]
          rfl
        · rw [h1 t ht1 (by omega), gt_swp _ _ _ _ (by omega) (by omega), if_neg (by omega), if_neg (by omega)]
      · rw [h2, gt_swp _ _ _ _ (by omega) (by omega), if_pos rfl]
    · rw [if_neg h]
      obtain rfl : i = k + 1 := by omega
      exact ⟨fun t h1 h2 => by omega, rfl, Good.rfl' _ _ _⟩

theorem symM_spec (hw : Weak lt) : ∀ (f a m b : Nat) (l : List α), b - a ≤ f → a < m → m < b → b ≤ l.length → Sd lt l a m → Sd lt l m b → Good l (symM lt f a m b l) a b ∧ Sd lt (symM lt f a m b l) a b
  | 0, a, m, b, l, hf, h1, h2, _, _, _ => by omega
  | f + 1, a, m, b, l, hf, ham, hmb, hb, hs1, hs2 => by
    have le_of_lt : ∀ x y, lt x y = true → lt y x = false := hw.asym
    rw [symM]
    by_cases hA : m - a = 1
    · rw [if_pos hA]
      obtain ⟨r1, r2, r3, r4⟩ := bs_spec (fun h => lt (gt l h) (gt l a)) _ m b (Nat.le_refl _) (by omega) (fun x y hx hxy hy hp => by
        cases hq : lt (gt l x) (gt l a) with
        | true => rfl
        | false =>
          -- x ≥ a's, y ≥ x: then y ≥ a's
          have := hw.ntr _ _ _ hq (hs2 x y hx hxy hy)
          rw [this] at hp; cases hp)
      generalize bs (fun h => lt (gt l h) (gt l a)) m b = r at *
      obtain ⟨u1, u2, u3⟩ := upW_spec (r - 1) _ a l (Nat.le_refl _) (by omega) (by omega)
      refine ⟨u3.wide (Nat.le_refl _) (by omega), fun i j hi hij hj => ?_⟩
      have val : ∀ k, a ≤ k → k < b → gt (upW (r - 1) a l) k = if k < r - 1 then gt l (k + 1) else if k = r - 1 then gt l a else gt l k := fun k hk1 hk2 => by
        by_cases c1 : k < r - 1
        · rw [if_pos c1, u1 k hk1 c1]
        · rw [if_neg c1]
          by_cases c2 : k = r - 1
          · rw [if_pos c2, c2, u2]
          · rw [if_neg c2, u3.out k (.inr (by omega))]
      rw [val i hi (by omega), val j (by omega) hj]
      by_cases c1 : j < r - 1
      · rw [if_pos c1, if_pos (by omega)]
        exact hs2 (i + 1) (j + 1) (by omega) (by omega) (by omega)
      · rw [if_neg c1]
        by_cases c2 : j = r - 1
        · rw [if_pos c2, if_pos (by omega)]
          exact le_of_lt _ _ (r3 (i + 1) (by omega) (by omega))
        · rw [if_neg c2]
          by_cases c3 : i < r - 1
          · rw [if_pos c3]
            exact hs2 (i + 1) j (by omega) (by omega) hj
          · rw [if_neg c3]
            by_cases c4 : i = r - 1
            · rw [if_pos c4]
              exact r4 j (by omega) hj
            · rw [if_neg c4]
              exact hs2 i j (by omega) hij hj
    · rw [if_neg hA]
      by_cases hB : b - m = 1
      · rw [if_pos hB]
        obtain ⟨r1, r2, r3, r4⟩ := bs_spec (fun h => !lt (gt l m) (gt l h)) _ a m (Nat.le_refl _) (by omega) (fun x y hx hxy hy hp => by
          have h1 : lt (gt l m) (gt l y) = false := by simpa using hp
          have := hw.ntr _ _ _ (hs1 x y hx hxy hy) h1
          show (!lt (gt l m) (gt l x)) = true
          rw [this]
          rfl)
        generalize bs (fun h => !lt (gt l m) (gt l h)) a m = r at *
        obtain ⟨u1, u2, u3⟩ := dnW_spec r m l (by omega) (by omega)
        refine ⟨u3.wide r1 (by omega), fun i j hi hij hj => ?_⟩
        have val : ∀ k, a ≤ k → k < b → gt (dnW r m l) k = if k < r then gt l k else if k = r then gt l m else gt l (k - 1) := fun k hk1 hk2 => by
          by_cases c1 : k < r
          · rw [if_pos c1, u3.out k (.inl c1)]
          · rw [if_neg c1]
            by_cases c2 : k = r
            · rw [if_pos c2, c2, u2]
            · rw [if_neg c2, u1 k (by omega) (by omega)]
        rw [val i hi (by omega), val j (by omega) hj]
        by_cases c1 : j < r
        · rw [if_pos c1, if_pos (by omega)]
          exact hs1 i j hi hij (by omega)
        · rw [if_neg c1]
          by_cases c2 : j = r
          · rw [if_pos c2, if_pos (by omega)]
            simpa using r3 i hi (by omega)
          · rw [if_neg c2]
            by_cases c3 : i < r
            · rw [if_pos c3]
              exact hs1 i (j - 1) hi (by omega) (by omega)
            · rw [if_neg c3]
              by_cases c4 : i = r
              · rw [if_pos c4]
                have := r4 (j - 1) (by omega) (by omega)
                exact le_of_lt _ _ (by simpa using this)
              · rw [if_neg c4]
                exact hs1 (i - 1) (j - 1) (by omega) (by omega) (by omega)
      · rw [if_neg hB]
        dsimp only
        obtain ⟨mid, hmid⟩ : ∃ mid, mid = (a + b) / 2 := ⟨_, rfl⟩
        rw [← hmid]
        obtain ⟨P, hP⟩ : ∃ P : Nat → Bool, P = fun c => !lt (gt l (mid + m - 1 - c)) (gt l c) := ⟨_, rfl⟩
        rw [← hP]
        obtain ⟨s0, r0, hsr0, hs0, hmono⟩ : ∃ s0 r0, (if mid < m then bs P (mid + m - b) mid else bs P a m) = bs P s0 r0 ∧ ((mid < m ∧ s0 = mid + m - b ∧ r0 = mid) ∨ (¬ mid < m ∧ s0 = a ∧ r0 = m)) ∧ s0 ≤ r0 := by
          by_cases h : mid < m
          · exact ⟨_, _, by rw [if_pos h], .inl ⟨h, rfl, rfl⟩, by omega⟩
          · exact ⟨_, _, by rw [if_neg h], .inr ⟨h, rfl, rfl⟩, by omega⟩
        rw [hsr0]
        obtain ⟨r1, r2, r3, r4⟩ := bs_spec P _ s0 r0 (Nat.le_refl _) hmono (fun x y hx hxy hy hp => by
          rw [hP] at hp ⊢
          have h1 : lt (gt l (mid + m - 1 - y)) (gt l y) = false := by simpa using hp
          have h2 : lt (gt l y) (gt l x) = false := hs1 x y (by omega) hxy (by omega)
          have h3 : lt (gt l (mid + m - 1 - x)) (gt l (mid + m - 1 - y)) = false := hs2 _ _ (by omega) (by omega) (by omega)
          have := hw.ntr _ _ _ (hw.ntr _ _ _ h2 h1) h3
          show (!lt (gt l (mid + m - 1 - x)) (gt l x)) = true
          rw [this]
          rfl)
        generalize bs P s0 r0 = s at *
        obtain ⟨e, he⟩ : ∃ e, e = mid + m - s := ⟨_, rfl⟩
        rw [← he]
        -- the four pieces
        have hse : s ≤ m ∧ m ≤ e ∧ a ≤ s ∧ e ≤ b ∧ s ≤ mid ∧ mid ≤ e := by omega
        have cr1 : ∀ x y, a ≤ x → x < s → e ≤ y → y < b → lt (gt l y) (gt l x) = false := fun x y hx1 hx2 hy1 hy2 => by
          have h1 := r3 (s - 1) (by omega) (by omega)
          rw [hP] at h1
          have h2 : lt (gt l (mid + m - 1 - (s - 1))) (gt l (s - 1)) = false := by simpa using h1
          rw [show mid + m - 1 - (s - 1) = e from by omega] at h2
          have h3 : lt (gt l (s - 1)) (gt l x) = false := by
            by_cases q : x = s - 1
            · rw [q]
              cases hq : lt (gt l (s - 1)) (gt l (s - 1)) with
              | false => rfl
              | true => exact absurd (le_of_lt _ _ hq) (by rw [hq]; simp)
            · exact hs1 x (s - 1) hx1 (by omega) (by omega)
          have h4 : lt (gt l y) (gt l e) = false := by
            by_cases q : y = e
            · rw [q]
              cases hq : lt (gt l e) (gt l e) with
              | false => rfl
              | true => exact absurd (le_of_lt _ _ hq) (by rw [hq]; simp)
            · exact hs2 e y (by omega) (by omega) hy2
          exact hw.ntr _ _ _ (hw.ntr _ _ _ h3 h2) h4
        have cr2 : ∀ x y, m ≤ x → x < e → s ≤ y → y < m → lt (gt l y) (gt l x) = false := fun x y hx1 hx2 hy1 hy2 => by
          have h1 := r4 s (Nat.le_refl _) (by omega)
          rw [hP] at h1
          have h2 : lt (gt l (mid + m - 1 - s)) (gt l s) = true := by simpa using h1
          rw [show mid + m - 1 - s = e - 1 from by omega] at h2
          have h2' := le_of_lt _ _ h2
          have h3 : lt (gt l (e - 1)) (gt l x) = false := by
            by_cases q : x = e - 1
            · rw [q]
              cases hq : lt (gt l (e - 1)) (gt l (e - 1)) with
              | false => rfl
              | true => exact absurd (le_of_lt _ _ hq) (by rw [hq]; simp)
            · exact hs2 x (e - 1) hx1 (by omega) (by omega)
          have h4 : lt (gt l y) (gt l s) = false := by
            by_cases q : y = s
            · rw [q]
              cases hq : lt (gt l s) (gt l s) with
              | false => rfl
              | true => exact absurd (le_of_lt _ _ hq) (by rw [hq]; simp)
            · exact hs1 s y (by omega) (by omega) hy2
          exact hw.ntr _ _ _ (hw.ntr _ _ _ h3 h2') h4
        -- behind the rotation
        obtain ⟨l1, hl1⟩ : ∃ l1, l1 = if s < m ∧ m < e then rot s m e l else l := ⟨_, rfl⟩
        rw [← hl1]
        have k1 : Good l l1 a b ∧ (∀ k, a ≤ k → k < mid → gt l1 k = if k < s then gt l k else gt l (k - s + m)) ∧ (∀ k, mid ≤ k → k < b → gt l1 k = if k < e then gt l (k - (e - m)) else gt l k) := by
          by_cases c : s < m ∧ m < e
          · rw [if_pos c] at hl1
            obtain ⟨t1, t2, t3⟩ := rot_spec s m e l c.1 c.2 (by omega)
            rw [hl1]
            refine ⟨t3.wide (by omega) (by omega), fun k hk1 hk2 => ?_, fun k hk1 hk2 => ?_⟩
            · by_cases q : k < s
              · rw [if_pos q, t3.out k (.inl q)]
              · rw [if_neg q, t1 k (by omega) (by omega)]
            · by_cases q : k < e
              · rw [if_pos q, t2 k (by omega) q]
              · rw [if_neg q, t3.out k (.inr (by omega))]
          · rw [if_neg c] at hl1
            rw [hl1]
            refine ⟨Good.rfl' _ _ _, fun k hk1 hk2 => ?_, fun k hk1 hk2 => ?_⟩
            · by_cases q : k < s
              · rw [if_pos q]
              · rw [if_neg q]
                congr 1
                omega
            · by_cases q : k < e
              · rw [if_pos q]
                congr 1
                omega
              · rw [if_neg q]
        obtain ⟨g1, v1, v2⟩ := k1
        have sA1 : Sd lt l1 a s := (hs1.sub (Nat.le_refl _) (by omega)).congr fun k h1 h2 => by rw [v1 k h1 (by omega), if_pos h2]
        have sA2 : Sd lt l1 s mid := fun i j hi hij hj => by
          rw [v1 i (by omega) (by omega), v1 j (by omega) hj, if_neg (by omega), if_neg (by omega)]
          exact hs2 _ _ (by omega) (by omega) (by omega)
        have sB1 : Sd lt l1 mid e := fun i j hi hij hj => by
          rw [v2 i hi (by omega), v2 j (by omega) (by omega), if_pos hj, if_pos (by omega)]
          exact hs1 _ _ (by omega) (by omega) (by omega)
        have sB2 : Sd lt l1 e b := (hs2.sub (by omega) (Nat.le_refl _)).congr fun k h1 h2 => by rw [v2 k (by omega) h2, if_neg (by omega)]
        have cross : ∀ x y, a ≤ x → x < mid → mid ≤ y → y < b → lt (gt l1 y) (gt l1 x) = false := fun x y hx1 hx2 hy1 hy2 => by
          rw [v1 x hx1 hx2, v2 y hy1 hy2]
          by_cases q1 : x < s
          · rw [if_pos q1]
            by_cases q2 : y < e
            · rw [if_pos q2]
              exact hs1 _ _ hx1 (by omega) (by omega)
            · rw [if_neg q2]
              exact cr1 _ _ hx1 q1 (by omega) hy2
          · rw [if_neg q1]
            by_cases q2 : y < e
            · rw [if_pos q2]
              exact cr2 _ _ (by omega) (by omega) (by omega) (by omega)
            · rw [if_neg q2]
              exact hs2 _ _ (by omega) (by omega) hy2
        obtain ⟨l2, hl2⟩ : ∃ l2, l2 = if a < s ∧ s < mid then symM lt f a s mid l1 else l1 := ⟨_, rfl⟩
        rw [← hl2]
        have k2 : Good l1 l2 a mid ∧ Sd lt l2 a mid := by
          by_cases c : a < s ∧ s < mid
          · rw [hl2, if_pos c]
            exact symM_spec hw f a s mid l1 (by omega) c.1 c.2 (by rw [g1.len]; omega) sA1 sA2
          · rw [hl2, if_neg c]
            refine ⟨Good.rfl' _ _ _, ?_⟩
            by_cases q : s = mid
            · rw [← q]; exact sA1
            · have : s = a := by omega
              rw [← this]; exact sA2
        obtain ⟨g2, sd2⟩ := k2
        have k3 : ∀ l3, l3 = (if mid < e ∧ e < b then symM lt f mid e b l2 else l2) → Good l2 l3 mid b ∧ Sd lt l3 mid b := by
          intro l3 hl3
          have sb1 : Sd lt l2 mid e := sB1.congr fun k h1 h2 => g2.out k (.inr h1)
          have sb2 : Sd lt l2 e b := sB2.congr fun k h1 h2 => g2.out k (.inr (by omega))
          by_cases c : mid < e ∧ e < b
          · rw [hl3, if_pos c]
            exact symM_spec hw f mid e b l2 (by omega) c.1 c.2 (by rw [g2.len, g1.len]; exact hb) sb1 sb2
          · rw [hl3, if_neg c]
            refine ⟨Good.rfl' _ _ _, ?_⟩
            by_cases q : e = mid
            · rw [← q]; exact sb2
            · have : e = b := by omega
              rw [← this]; exact sb1
        obtain ⟨g3, sd3⟩ := k3 _ rfl
        generalize (if mid < e ∧ e < b then symM lt f mid e b l2 else l2) = l3 at *
        refine ⟨(g1.tr (g2.wide (Nat.le_refl _) (by omega))).tr (g3.wide (by omega) (Nat.le_refl _)), fun i j hi hij hj => ?_⟩
        by_cases q1 : j < mid
        · rw [g3.out i (.inl (by omega)), g3.out j (.inl q1)]
          exact sd2 i j hi hij q1
        · by_cases q2 : i < mid
          · rw [g3.out i (.inl q2)]
            obtain ⟨i', a1, a2, a3⟩ := g2.inn i hi q2
            obtain ⟨j', b1, b2, b3⟩ := g3.inn j (by omega) hj
            rw [a3, b3, g2.out j' (.inr b1)]
            exact cross i' j' a1 a2 b1 b2
          · exact sd3 i j (by omega) hij hj
end
end Go.Proofs.YthhmbijblpjfpaaGreat
