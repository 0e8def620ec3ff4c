/- Plain laws of package flt: a float's key, and that 'Mid' lies strictly between. -/
import Derived.Test.YthhmbijblpjfpaaGreatFlt
import Derived.Laws.BitsAllLaws
namespace Go.Proofs.YthhmbijblpjfpaaGreat
open Go.RowKit

theorem read_cases (x : Nat) : (∃ m i, Ieee.Format.read Ieee.double x = .number (x / 9223372036854775808 % 2 == 1) m i ∧ (m = 0 ↔ x % 9223372036854775808 = 0) ∧ x % 9223372036854775808 < 9218868437227405312) ∨
    (Ieee.Format.read Ieee.double x = .infinity (x / 9223372036854775808 % 2 == 1) ∧ x % 9223372036854775808 = 9218868437227405312) ∨
    (∃ k, Ieee.Format.read Ieee.double x = .nan (x / 9223372036854775808 % 2 == 1) k ∧ 9218868437227405312 < x % 9223372036854775808) := by
  have e1 : Ieee.Format.signWeight Ieee.double = 9223372036854775808 := by decide +kernel
  have e2 : Ieee.Format.infRung Ieee.double = 9218868437227405312 := by decide +kernel
  have e3 : Ieee.Format.binade Ieee.double = 4503599627370496 := by decide +kernel
  unfold Ieee.Format.read
  simp only [e1, e2, e3]
  generalize hs : (x / 9223372036854775808 % 2 == 1) = s
  generalize hr : x % 9223372036854775808 = r
  by_cases h1 : r < 4503599627370496
  · rw [if_pos h1]
    exact .inl ⟨_, _, rfl, Iff.rfl, by omega⟩
  · rw [if_neg h1]
    by_cases h2 : r < 9218868437227405312
    · rw [if_pos h2]
      exact .inl ⟨_, _, rfl, by omega, h2⟩
    · rw [if_neg h2]
      by_cases h3 : r = 9218868437227405312
      · rw [if_pos h3]
        exact .inr (.inl ⟨rfl, h3⟩)
      · rw [if_neg h3]
        exact .inr (.inr ⟨_, rfl, by omega⟩)
theorem fNan_iff (x : Nat) : fNan x = true ↔ 9218868437227405312 < x % 9223372036854775808 := by
  unfold fNan
  show (Ieee.Datum.order (Ieee.Format.read Ieee.double x) (Ieee.Format.read Ieee.double x) != some Ordering.eq) = true ↔ _
  rcases read_cases x with ⟨m, i, h, _, hr⟩ | ⟨h, hr⟩ | ⟨k, h, hr⟩
  · rw [h]
    simp [Ieee.Datum.order]
    omega
  · rw [h]
    simp [Ieee.Datum.order]
    omega
  · rw [h]
    simp [Ieee.Datum.order]
    exact hr
theorem read_zero : Ieee.Format.read Ieee.double 0 = .number false 0 (-1074) := by decide +kernel
/- Not a NaN, not a zero: it stands below or above nought. -/
theorem fNeg_fPos (x : Nat) (h : ¬ 9218868437227405312 < x % 9223372036854775808) (h0 : x % 9223372036854775808 ≠ 0) : fNeg x = true ∨ fPos x = true := by
  unfold fNeg fPos
  show (Ieee.Datum.order (Ieee.Format.read Ieee.double x) (Ieee.Format.read Ieee.double 0) == some Ordering.lt) = true ∨ (Ieee.Datum.order (Ieee.Format.read Ieee.double x) (Ieee.Format.read Ieee.double 0) == some Ordering.gt) = true
  rw [read_zero]
  generalize hs : (x / 9223372036854775808 % 2 == 1) = s
  rcases read_cases x with ⟨m, i, e, hm, hr⟩ | ⟨e, hr⟩ | ⟨k, e, hr⟩
  · rw [e, hs]
    have hm0 : 0 < m := by omega
    have hp : ∀ k, 0 < m <<< k := fun k => by rw [Nat.shiftLeft_eq]; exact Nat.mul_pos hm0 (Nat.two_pow_pos k)
    cases s
    · right
      have h1 := hp ((i - min i (-1074)).toNat)
      simp only [Ieee.Datum.order, Ieee.signed, Nat.zero_shiftLeft]
      have : compare ((m <<< (i - min i (-1074)).toNat : Nat) : Int) ((0 : Nat) : Int) = Ordering.gt := by
        rw [Int.compare_eq_gt]; omega
      simpa using this
    · left
      have h1 := hp ((i - min i (-1074)).toNat)
      simp only [Ieee.Datum.order, Ieee.signed, Nat.zero_shiftLeft]
      have : compare (-((m <<< (i - min i (-1074)).toNat : Nat) : Int)) ((0 : Nat) : Int) = Ordering.lt := by
        rw [Int.compare_eq_lt]; omega
      simpa using this
  · rw [e, hs]
    cases s <;> simp [Ieee.Datum.order]
  · omega
theorem fZero (x : Nat) (h0 : x % 9223372036854775808 = 0) : fNeg x = false ∧ fPos x = false := by
  unfold fNeg fPos
  show (Ieee.Datum.order (Ieee.Format.read Ieee.double x) (Ieee.Format.read Ieee.double 0) == some Ordering.lt) = false ∧ (Ieee.Datum.order (Ieee.Format.read Ieee.double x) (Ieee.Format.read Ieee.double 0) == some Ordering.gt) = false
  rw [read_zero]
  rcases read_cases x with ⟨m, i, e, hm, hr⟩ | ⟨e, hr⟩ | ⟨k, e, hr⟩
  · rw [e]
    have hm0 : m = 0 := by omega
    subst hm0
    cases (x / 9223372036854775808 % 2 == 1) <;> simp [Ieee.Datum.order, Ieee.signed]
  · omega
  · omega

theorem fCanon_zero (x : Nat) (hx : x < 18446744073709551616) (h0 : x % 9223372036854775808 = 0) : fCanon x = 0 := by
  have hc : fClass x = 3 := by
    have h1 : x = 0 ∨ x = 9223372036854775808 := by omega
    have hn : fNan x = false := by
      rw [Bool.eq_false_iff]
      intro h
      have := (fNan_iff x).1 h
      omega
    obtain ⟨h2, h3⟩ := fZero x h0
    rw [fClass_eq, hn, h2, h3, fInfN_eq, fInfP_eq, fOpp_eq]
    rcases h1 with rfl | rfl <;> decide +kernel
  rw [fCanon_eq, hc]
  rfl
theorem fCanon_self (x : Nat) (hn : ¬ 9218868437227405312 < x % 9223372036854775808) (h0 : x % 9223372036854775808 ≠ 0) : fCanon x = x := by
  have hnn : fNan x = false := by
    rw [Bool.eq_false_iff]
    exact fun h => hn ((fNan_iff x).1 h)
  have hc := fClass_eq x
  rw [hnn] at hc
  have hc3 : fClass x ≠ 3 ∧ fClass x ≠ 0 := by
    rw [hc]
    rcases fNeg_fPos x hn h0 with h | h <;> rw [h] <;> cases fInfN x <;> cases fInfP x <;> cases fNeg x <;> simp
  rw [fCanon_eq, if_neg (by simpa using hc3.2), if_neg (by simpa using hc3.1)]
theorem xor_all (b : Nat) (hb : b < 18446744073709551616) : bits .xor .u64 IntKind.u64.max (b : Int) = ((18446744073709551615 - b : Nat) : Int) := by
  have h := u64_xor_nat 18446744073709551615 b (by decide) hb
  rw [show IntKind.u64.max = ((18446744073709551615 : Nat) : Int) by decide +kernel, h]
  congr 1
  have h2 : (BitVec.allOnes 64 ^^^ BitVec.ofNat 64 b).toNat = (~~~ BitVec.ofNat 64 b).toNat := by rw [BitVec.allOnes_xor]
  rw [BitVec.toNat_xor, BitVec.toNat_not, BitVec.toNat_allOnes, BitVec.toNat_ofNat, Nat.mod_eq_of_lt (by omega)] at h2
  simpa using h2
theorem or_top (b : Nat) (hb : b < 9223372036854775808) : bits .or .u64 (b : Int) 9223372036854775808 = ((b + 9223372036854775808 : Nat) : Int) := by
  have h := u64_or_nat b 9223372036854775808 (by omega) (by decide)
  rw [show (9223372036854775808 : Int) = ((9223372036854775808 : Nat) : Int) by rfl, h, Nat.or_comm, nat_join 63 9223372036854775808 b (by decide) (by omega)]
  congr 1
  omega
theorem andNot_top (b : Nat) (hb : b < 18446744073709551616) : bits .andNot .u64 (b : Int) 9223372036854775808 = ((b % 9223372036854775808 : Nat) : Int) := by
  have h := u64_andNot_nat b 9223372036854775808 (by omega) (by decide)
  rw [show (9223372036854775808 : Int) = ((9223372036854775808 : Nat) : Int) by rfl, h]
  congr 1
  exact Nat.and_two_pow_sub_one_eq_mod b 63
theorem fNan_false (x : Nat) (h : x % 9223372036854775808 ≤ 9218868437227405312) : fNan x = false := by
  rw [Bool.eq_false_iff]
  intro h2
  have := (fNan_iff x).1 h2
  omega
theorem fKey_pos (x : Nat) (hx : x ≤ 9218868437227405312) : fKey x = ((x + 9223372036854775808 : Nat) : Int) := by
  have hc : fCanon x = x := by
    by_cases h0 : x = 0
    · subst h0
      exact fCanon_zero 0 (by decide) (by decide)
    · exact fCanon_self x (by omega) (by omega)
  rw [fKey_eq, fNan_false x (by omega), hc, fBits_eq, if_neg (by simp), if_pos (by omega), or_top x (by omega)]
theorem fKey_neg (x : Nat) (hx : 9223372036854775808 < x) (hy : x ≤ 18442240474082181120) : fKey x = ((18446744073709551615 - x : Nat) : Int) := by
  rw [fKey_eq, fNan_false x (by omega), fCanon_self x (by omega) (by omega), fBits_eq, if_neg (by simp), if_neg (by omega), xor_all x (by omega)]
theorem fKey_negz : fKey 9223372036854775808 = 9223372036854775808 := by
  rw [fKey_eq, fNan_false _ (by omega), fCanon_zero _ (by omega) (by omega), fBits_eq, if_neg (by simp), if_pos (by omega), or_top 0 (by omega)]
  rfl
def KeyOk (k : Int) : Prop := 4503599627370495 ≤ k ∧ k ≤ 18442240474082181120 ∧ k ≠ 9223372036854775807
theorem fKey_ok (x : Nat) (hx : x < 18446744073709551616) (hn : fNan x = false) : KeyOk (fKey x) := by
  have h : ¬ 9218868437227405312 < x % 9223372036854775808 := fun h => by rw [(fNan_iff x).2 h] at hn; cases hn
  unfold KeyOk
  by_cases h1 : x ≤ 9218868437227405312
  · rw [fKey_pos x h1]; omega
  · by_cases h2 : x = 9223372036854775808
    · rw [h2, fKey_negz]; omega
    · rw [fKey_neg x (by omega) (by omega)]; omega
theorem fOf_ok (k : Int) (h : KeyOk k) : ∃ y : Nat, fOf k = (y, true) ∧ y < 18446744073709551616 ∧ fNan y = false ∧ fKey y = k := by
  unfold KeyOk at h
  obtain ⟨n, rfl⟩ : ∃ n : Nat, k = n := ⟨k.toNat, by omega⟩
  by_cases h1 : 9223372036854775808 ≤ n
  · have hb : fBack n = ((n - 9223372036854775808 : Nat) : Int) := by
      rw [fBack_eq, if_pos (by omega), andNot_top n (by omega)]
      omega
    have hn : fNan (n - 9223372036854775808) = false := fNan_false _ (by omega)
    have ho : fOfBits (fBack n) = n - 9223372036854775808 := by rw [hb, fOfBits_eq, Int.toNat_natCast]
    refine ⟨n - 9223372036854775808, ?_, by omega, hn, ?_⟩
    · rw [fOf_eq, if_neg (by rw [beq_iff_eq]; omega), ho, hn, if_neg (by simp), if_neg (by rw [hb, beq_iff_eq]; omega)]
    · rw [fKey_pos _ (by omega)]; omega
  · have hb : fBack n = ((18446744073709551615 - n : Nat) : Int) := by
      rw [fBack_eq, if_neg (by omega), xor_all n (by omega)]
    have hn : fNan (18446744073709551615 - n) = false := fNan_false _ (by omega)
    have ho : fOfBits (fBack n) = 18446744073709551615 - n := by rw [hb, fOfBits_eq, Int.toNat_natCast]
    refine ⟨18446744073709551615 - n, ?_, by omega, hn, ?_⟩
    · rw [fOf_eq, if_neg (by rw [beq_iff_eq]; omega), ho, hn, if_neg (by simp), if_neg (by rw [hb, beq_iff_eq]; omega)]
    · rw [fKey_neg _ (by omega) (by omega)]; omega
theorem fMid_between (lo hi f : Nat) (hlo : lo < 18446744073709551616) (hhi : hi < 18446744073709551616) (h : fMid lo hi = (f, true)) :
    fKey lo < fKey f ∧ fKey f < fKey hi ∧ f < 18446744073709551616 ∧ fNan f = false := by
  rw [fMid_eq] at h
  by_cases hn1 : fNan lo = true
  · rw [hn1] at h; simp at h
  rw [Bool.not_eq_true] at hn1
  by_cases hn2 : fNan hi = true
  · rw [hn1, hn2] at h; simp at h
  rw [Bool.not_eq_true] at hn2
  rw [hn1, hn2, if_neg (by simp), if_neg (by simp)] at h
  have hk1 := fKey_ok lo hlo hn1
  have hk2 := fKey_ok hi hhi hn2
  have hst := fSteps_eq lo hi
  rw [hn1] at hst
  have hp1 := fPlace_eq lo
  have hp2 := fPlace_eq hi
  generalize fKey lo = a at *
  generalize fKey hi = b at *
  unfold KeyOk at hk1 hk2
  by_cases hab : a < b
  · rw [if_neg (by simp [hab]), if_neg (by simp)] at hst
    obtain ⟨p, hp⟩ : ∃ p, p = fPlace lo := ⟨_, rfl⟩
    obtain ⟨q, hq⟩ : ∃ q, q = fPlace hi := ⟨_, rfl⟩
    rw [← hp] at hp1 hst h
    rw [← hq] at hp2 hst
    simp only [IntKind.wrap_u64] at hp1 hp2 hst h
    have hpq : p < q ∧ 0 ≤ p ∧ q < 18446744073709551616 ∧ (p = a ∧ a < 9223372036854775807 ∨ p = a - 1 ∧ 9223372036854775807 < a) ∧ (q = b ∧ b < 9223372036854775807 ∨ q = b - 1 ∧ 9223372036854775807 < b) := by
      split at hp1 <;> split at hp2 <;> omega
    have hst2 : fSteps lo hi = q - p - 1 := by rw [hst]; omega
    rw [hst2] at h
    by_cases h0 : q - p - 1 = 0
    · rw [h0] at h; simp at h
    rw [if_neg (by simpa using h0)] at h
    have hd : (q - p - 1).tdiv 2 = (q - p - 1) / 2 := Int.tdiv_eq_ediv_of_nonneg (by omega)
    rw [hd] at h
    obtain ⟨m, hm⟩ : ∃ m : Int, m = ((p + 1) % 18446744073709551616 + (q - p - 1) / 2 % 18446744073709551616) % 18446744073709551616 := ⟨_, rfl⟩
    rw [← hm] at h
    have hmm : p < m ∧ m < q := by omega
    rw [fAt_eq] at h
    injection h with h _
    by_cases h7 : 9223372036854775807 ≤ m
    · rw [if_pos h7, IntKind.wrap_u64] at h
      have hmk : (m + 1) % 18446744073709551616 = m + 1 := by omega
      rw [hmk] at h
      obtain ⟨y, hy, hy1, hy2, hy3⟩ := fOf_ok (m + 1) (by unfold KeyOk; omega)
      rw [hy] at h
      subst h
      refine ⟨?_, ?_, hy1, hy2⟩ <;> rw [hy3] <;> omega
    · rw [if_neg h7] at h
      obtain ⟨y, hy, hy1, hy2, hy3⟩ := fOf_ok m (by unfold KeyOk; omega)
      rw [hy] at h
      subst h
      refine ⟨?_, ?_, hy1, hy2⟩ <;> rw [hy3] <;> omega
  · rw [if_pos (by simp [hab])] at hst
    rw [hst] at h
    simp at h
end Go.Proofs.YthhmbijblpjfpaaGreat
