/- The stable sort, whole: what it computes, and that it sorts. -/
import Derived.Test.YthhmbijblpjfpaaGreatSortPure
import Derived.Test.YthhmbijblpjfpaaGreatSort4
namespace Go.Proofs.YthhmbijblpjfpaaGreat
open Go.RowKit

section
variable {α : Type} [Inhabited α]
def stIns (lt : α → α → Bool) (n a b : Nat) (l : List α) : List α :=
  if b ≤ n then stIns lt n b (b + 20) (insSort lt a b l) else insSort lt a n l
termination_by n + 1 - b
def mrgRow (lt : α → α → Bool) (n z a b : Nat) (l : List α) : List α :=
  if 0 < z ∧ b ≤ n then mrgRow lt n z b (b + 2 * z) (symM lt n a (a + z) b l) else if a + z < n then symM lt n a (a + z) n l else l
termination_by n + 1 - b
def mrgAll (lt : α → α → Bool) (n z : Nat) (l : List α) : List α :=
  if 0 < z ∧ z < n then mrgAll lt n (2 * z) (mrgRow lt n z 0 (2 * z) l) else l
termination_by n - z
def stableL (lt : α → α → Bool) (n : Nat) (l : List α) : List α := mrgAll lt n 20 (stIns lt n 0 20 l)

variable {lt : α → α → Bool}
/-- the blocks of z elements are sorted -/
def Bk (lt : α → α → Bool) (n z : Nat) (l : List α) : Prop := ∀ t, Sd lt l (t * z) (min (t * z + z) n)

theorem stIns_spec (hw : Weak lt) (n : Nat) : ∀ (d q : Nat) (l : List α), n + 1 - (q * 20 + 20) ≤ d → n ≤ l.length → (∀ t, t < q → Sd lt l (t * 20) (min (t * 20 + 20) n)) →
    Good l (stIns lt n (q * 20) (q * 20 + 20) l) 0 n ∧ Bk lt n 20 (stIns lt n (q * 20) (q * 20 + 20) l)
  | d, q, l, hd, hn, hs => by
    rw [stIns]
    by_cases h : q * 20 + 20 ≤ n
    · rw [if_pos h]
      obtain ⟨g, sd⟩ := insSort_spec hw (q * 20) (q * 20 + 20) l (by omega)
      cases d with
      | zero => omega
      | succ d =>
        have := stIns_spec hw n d (q + 1) (insSort lt (q * 20) (q * 20 + 20) l) (by omega) (by rw [g.len]; exact hn) (fun t ht => by
          by_cases e : t = q
          · subst e
            rw [Nat.min_eq_left h]
            exact sd
          · exact (hs t (by omega)).congr fun k h1 h2 => g.out k (.inl (by omega)))
        rw [show (q + 1) * 20 = q * 20 + 20 from by omega] at this
        exact ⟨(g.wide (Nat.zero_le _) h).tr this.1, this.2⟩
    · rw [if_neg h]
      obtain ⟨g, sd⟩ := insSort_spec hw (q * 20) n l hn
      refine ⟨g.wide (Nat.zero_le _) (Nat.le_refl _), fun t => ?_⟩
      by_cases e : t = q
      · subst e
        rw [Nat.min_eq_right (by omega)]
        exact sd
      · by_cases e2 : t < q
        · exact (hs t e2).congr fun k h1 h2 => g.out k (.inl (by omega))
        · exact fun i j h1 h2 h3 => by omega

theorem mrgRow_spec (hw : Weak lt) (n z : Nat) (hz : 0 < z) : ∀ (d q : Nat) (l : List α), n + 1 - (q * (2 * z) + 2 * z) ≤ d → n ≤ l.length → (∀ t, t < q → Sd lt l (t * (2 * z)) (min (t * (2 * z) + 2 * z) n)) → (∀ t, 2 * q ≤ t → Sd lt l (t * z) (min (t * z + z) n)) →
    Good l (mrgRow lt n z (q * (2 * z)) (q * (2 * z) + 2 * z) l) 0 n ∧ Bk lt n (2 * z) (mrgRow lt n z (q * (2 * z)) (q * (2 * z) + 2 * z) l)
  | d, q, l, hd, hn, hs, hb => by
    have e1 : (2 * q) * z = q * (2 * z) := by rw [Nat.mul_comm 2 q, Nat.mul_assoc]
    have e2 : (2 * q + 1) * z = q * (2 * z) + z := by rw [Nat.add_mul, e1, Nat.one_mul]
    have b1 := hb (2 * q) (Nat.le_refl _)
    have b2 := hb (2 * q + 1) (by omega)
    rw [e1] at b1
    rw [e2] at b2
    have far : ∀ t, q < t → q * (2 * z) + 2 * z ≤ t * (2 * z) := fun t ht => by
      have := Nat.mul_le_mul_right (2 * z) (show q + 1 ≤ t from ht)
      rw [Nat.add_mul, Nat.one_mul] at this
      exact this
    have near : ∀ t, t < q → t * (2 * z) + 2 * z ≤ q * (2 * z) := fun t ht => by
      have := Nat.mul_le_mul_right (2 * z) (show t + 1 ≤ q from ht)
      rw [Nat.add_mul, Nat.one_mul] at this
      exact this
    obtain ⟨A, hA⟩ : ∃ A, A = q * (2 * z) := ⟨_, rfl⟩
    rw [← hA] at b1 b2 hd far near ⊢
    rw [mrgRow]
    by_cases h : A + 2 * z ≤ n
    · rw [if_pos ⟨hz, h⟩]
      obtain ⟨g, sd⟩ := symM_spec hw n A (A + z) (A + 2 * z) l (by omega) (by omega) (by omega) (by omega)
        (b1.sub (Nat.le_refl _) (by omega)) (b2.sub (Nat.le_refl _) (by omega))
      cases d with
      | zero => omega
      | succ d =>
        have := mrgRow_spec hw n z hz d (q + 1) (symM lt n A (A + z) (A + 2 * z) l) (by rw [Nat.add_mul, Nat.one_mul, ← hA]; omega) (by rw [g.len]; exact hn) (fun t ht => by
            by_cases e : t = q
            · subst e
              rw [← hA, Nat.min_eq_left h]
              exact sd
            · have hnr := near t (by omega)
              exact (hs t (by omega)).congr fun k h1 h2 => g.out k (.inl (by omega)))
          (fun t ht => by
            have h9 : A + 2 * z ≤ t * z := by
              have := Nat.mul_le_mul_right z (show 2 * q + 2 ≤ t from by omega)
              rw [Nat.add_mul, e1, ← hA] at this
              exact this
            exact (hb t (by omega)).congr fun k h1 h2 => g.out k (.inr (by omega)))
        rw [Nat.add_mul, Nat.one_mul, ← hA] at this
        exact ⟨(g.wide (Nat.zero_le _) h).tr this.1, this.2⟩
    · rw [if_neg (fun hc => h hc.2)]
      by_cases h2 : A + z < n
      · rw [if_pos h2]
        obtain ⟨g, sd⟩ := symM_spec hw n A (A + z) n l (by omega) (by omega) h2 hn (b1.sub (Nat.le_refl _) (by omega)) (b2.sub (Nat.le_refl _) (by omega))
        refine ⟨g.wide (Nat.zero_le _) (Nat.le_refl _), fun t => ?_⟩
        by_cases e : t = q
        · subst e
          rw [← hA, Nat.min_eq_right (by omega)]
          exact sd
        · by_cases e3 : t < q
          · have hnr := near t e3
            exact (hs t e3).congr fun k h1 h2 => g.out k (.inl (by omega))
          · have hf := far t (by omega)
            exact fun i j h1 h2 h3 => by omega
      · rw [if_neg h2]
        refine ⟨Good.rfl' _ _ _, fun t => ?_⟩
        by_cases e : t = q
        · subst e
          rw [← hA]
          exact b1.sub (Nat.le_refl _) (by omega)
        · by_cases e3 : t < q
          · exact hs t e3
          · have hf := far t (by omega)
            exact fun i j h1 h2 h3 => by omega
theorem mrgAll_spec (hw : Weak lt) (n : Nat) : ∀ (d z : Nat) (l : List α), n - z ≤ d → 0 < z → n ≤ l.length → Bk lt n z l → Good l (mrgAll lt n z l) 0 n ∧ Sd lt (mrgAll lt n z l) 0 n
  | d, z, l, hd, hz, hn, hb => by
    rw [mrgAll]
    by_cases h : z < n
    · rw [if_pos ⟨hz, h⟩]
      have := mrgRow_spec hw n z hz _ 0 l (Nat.le_refl _) hn (fun t ht => by omega) (fun t _ => hb t)
      rw [Nat.zero_mul, Nat.zero_add] at this
      cases d with
      | zero => omega
      | succ d =>
        have h2 := mrgAll_spec hw n d (2 * z) _ (by omega) (by omega) (by rw [this.1.len]; exact hn) this.2
        exact ⟨this.1.tr h2.1, h2.2⟩
    · rw [if_neg (fun hc => h hc.2)]
      refine ⟨Good.rfl' _ _ _, ?_⟩
      have := hb 0
      rw [Nat.zero_mul, Nat.zero_add, Nat.min_eq_right (by omega)] at this
      exact this
theorem stableL_spec (hw : Weak lt) (n : Nat) (l : List α) (hn : n ≤ l.length) : Good l (stableL lt n l) 0 n ∧ Sd lt (stableL lt n l) 0 n := by
  have h1 := stIns_spec hw n _ 0 l (Nat.le_refl _) hn (fun t ht => by omega)
  rw [Nat.zero_mul, Nat.zero_add] at h1
  have h2 := mrgAll_spec hw n _ 20 _ (Nat.le_refl _) (by omega) (by rw [h1.1.len]; exact hn) h1.2
  exact ⟨h1.1.tr h2.1, h2.2⟩
end

theorem insOut_len (lt : Tsk → Tsk → Bool) (a b : Nat) : ∀ (d i : Nat) (l : List Tsk), b - i ≤ d → (insOut lt a b i l).length = l.length
  | d, i, l, hd => by
    rw [insOut]
    by_cases h : i < b
    · rw [if_pos h]
      cases d with
      | zero => omega
      | succ d => rw [insOut_len lt a b d (i + 1) _ (by omega), insIn_len]
    · rw [if_neg h]
theorem insSort_len (lt : Tsk → Tsk → Bool) (a b : Nat) (l : List Tsk) : (insSort lt a b l).length = l.length := insOut_len lt a b _ _ l (Nat.le_refl _)
theorem stIns_go {lt : Tsk → Tsk → Bool} {n a b : Nat} {l : List Tsk} (h : b ≤ n) : stIns lt n a b l = stIns lt n b (b + 20) (insSort lt a b l) := by rw [stIns, if_pos h]
theorem stIns_end {lt : Tsk → Tsk → Bool} {n a b : Nat} {l : List Tsk} (h : ¬ b ≤ n) : stIns lt n a b l = insSort lt a n l := by rw [stIns, if_neg h]
theorem mrgRow_go {lt : Tsk → Tsk → Bool} {n z a b : Nat} {l : List Tsk} (hz : 0 < z) (h : b ≤ n) : mrgRow lt n z a b l = mrgRow lt n z b (b + 2 * z) (symM lt n a (a + z) b l) := by rw [mrgRow, if_pos ⟨hz, h⟩]
theorem mrgRow_end {lt : Tsk → Tsk → Bool} {n z a b : Nat} {l : List Tsk} (h : ¬ b ≤ n) : mrgRow lt n z a b l = if a + z < n then symM lt n a (a + z) n l else l := by rw [mrgRow, if_neg (fun hc => h hc.2)]
theorem mrgAll_go {lt : Tsk → Tsk → Bool} {n z : Nat} {l : List Tsk} (hz : 0 < z) (h : z < n) : mrgAll lt n z l = mrgAll lt n (2 * z) (mrgRow lt n z 0 (2 * z) l) := by rw [mrgAll, if_pos ⟨hz, h⟩]
theorem mrgAll_end {lt : Tsk → Tsk → Bool} {n z : Nat} {l : List Tsk} (h : ¬ z < n) : mrgAll lt n z l = l := by rw [mrgAll, if_neg (fun hc => h hc.2)]

set_option maxRecDepth 100000 in
set_option maxHeartbeats 1000000 in
theorem stableCmp_any (g c : Nat) (F : Nat) (caps : Array Value) (cf : Tsk → Tsk → Int) (l : List Tsk) (len : Nat) (rest : List Value) (w : World)
    (hF : ∀ args w, Sem.run Tryz.prog (callFunc F args) w = .ok (.enter F args) w) (hc : CmpOK F caps cf g w) (hlen : l.length = len) (hB : RB w g l rest) (hl : len ≤ 1000000) :
    Calls Tryz.prog 104 #[.slice (some ⟨g, 0, none⟩) len c, .int .i64 len, .func (.func F) #[] caps] w
      fun e w' => e = .returned (.tuple #[]) ∧ RB w' g (stableL (ltc cf) len l) rest ∧ Srt g w w' := by
  have Hcmp := Lib.hid hc
  have HL := Lib.hid hlen
  have HB0 := Lib.hid hB
  clear hlen hB hc
  go_enter Tryz.func104, Tryz.ntmps104
  go_wp2_with fail
  go_loopw [7, 8] (fun va vb wr => ∃ (a b : Nat) (cur : List Tsk), a ≤ len ∧ b = a + 20 ∧ va = .int .i64 a ∧ vb = .int .i64 b ∧ cur.length = len ∧ RB wr g cur rest ∧ Srt g w wr ∧ stIns (ltc cf) len 0 20 l = stIns (ltc cf) len a b cur) (fun va _ _ => len - (intOf va).toNat)
  case atStart => exact ⟨0, 20, l, Nat.zero_le _, rfl, rfl, rfl, HL.out, HB0.out, Srt.rfl', rfl⟩
  case round =>
    obtain ⟨a, b, cur, ha, hab, rfl, rfl, hcl, hB, hS, hR⟩ := hrel
    have HC := Lib.hid hcl
    have HR := Lib.hid hR
    have HB := Lib.hid hB
    have HAB := Lib.hid hab
    have hab1 : b ≤ a + 20 := by omega
    have hab2 : a + 20 ≤ b := by omega
    clear hcl hR hB hab
    by_cases hbn : b ≤ len
    · go_wp2_with (go_at_call 141; refine (insertion_any g c a b _ _ F caps cf cur len rest _ hF (Hcmp.out.later hS) rfl rfl HC.out HB.out hbn hl ha).mono ?_; rintro e w2 ⟨rfl, hb2, hs2⟩)
      go_roundw
      case rel => exact ⟨b, b + 20, _, hbn, rfl, rfl, by go_num, (insSort_len _ _ _ _).trans HC.out, hb2, hS.tr hs2, by rw [HR.out, stIns_go hbn]⟩
      case measure => simp [intOf]; omega
    · go_wp2_with (go_at_call 141; refine (insertion_any g c a len _ _ F caps cf cur len rest _ hF (Hcmp.out.later hS) rfl rfl HC.out HB.out (Nat.le_refl _) hl ha).mono ?_; rintro e w2 ⟨rfl, hb2, hs2⟩; have HB2 := Lib.hid hb2; have hS2 := hS.tr hs2; clear hb2)
      have HI := Lib.hid (show stIns (ltc cf) len 0 20 l = insSort (ltc cf) a len cur by rw [HR.out, stIns_end hbn])
      have HIL := Lib.hid ((insSort_len (ltc cf) a len cur).trans HC.out)
      go_loopw [6] (fun vz wr => ∃ (z : Nat) (cu : List Tsk), 0 < z ∧ z ≤ 2 * len + 20 ∧ vz = .int .i64 z ∧ cu.length = len ∧ RB wr g cu rest ∧ Srt g w wr ∧ stableL (ltc cf) len l = mrgAll (ltc cf) len z cu) (fun vz _ => 2 * len + 20 - (intOf vz).toNat)
      case atStart => exact ⟨20, _, by omega, by omega, rfl, HIL.out, HB2.out, hS2, by unfold stableL; rw [HI.out]⟩
      case round =>
        clear hS HB HR HC hS2 HB2 HI HIL hab1 hab2 HAB hs2
        obtain ⟨z, cu, hz0, hz1, rfl, hcl, hB, hS, hR⟩ := hrel
        have HC := Lib.hid hcl
        have HR := Lib.hid hR
        have HB := Lib.hid hB
        clear hcl hR hB
        by_cases hzn : z < len
        · go_wp2_with fail
          go_loopw [7, 8] (fun va vb wr => ∃ (a b : Nat) (cw : List Tsk), a ≤ len ∧ b = a + 2 * z ∧ va = .int .i64 a ∧ vb = .int .i64 b ∧ cw.length = len ∧ RB wr g cw rest ∧ Srt g w wr ∧ mrgRow (ltc cf) len z 0 (2 * z) cu = mrgRow (ltc cf) len z a b cw) (fun va _ _ => len - (intOf va).toNat)
          case atStart => exact ⟨0, 2 * z, cu, Nat.zero_le _, by omega, rfl, congrArg (Value.int .i64) (by omega), HC.out, HB.out, hS, rfl⟩
          case round =>
            clear hS HB
            obtain ⟨a, b, cw, ha, hab, rfl, rfl, hcl, hB, hS, hR⟩ := hrel
            have HC2 := Lib.hid hcl
            have HR2 := Lib.hid hR
            have HB := Lib.hid hB
            have hab1 : b ≤ a + 2 * z := by omega
            have hab2 : a + 2 * z ≤ b := by omega
            have HAB := Lib.hid hab
            clear hcl hR hB hab
            by_cases hbn : b ≤ len
            · go_wp2_with (go_at_call 142; refine (symMerge_any len g c a (a + z) b _ _ _ F caps cf cw len rest _ hF (Hcmp.out.later hS) (by omega) (by omega) (by omega) HC2.out HB.out (by omega) (by omega) hbn hl (by omega)).mono ?_; rintro e w2 ⟨rfl, hb2, hs2⟩)
              go_roundw
              case rel => exact ⟨b, b + 2 * z, _, hbn, rfl, rfl, congrArg (Value.int .i64) (by omega), (symM_len _ _ _ _ _ _).trans HC2.out, hb2, hS.tr hs2, by rw [HR2.out, mrgRow_go hz0 hbn]⟩
              case measure => simp [intOf]; omega
            · by_cases hmn : a + z < len
              · go_wp2_with (go_at_call 142; refine (symMerge_any len g c a (a + z) len _ _ _ F caps cf cw len rest _ hF (Hcmp.out.later hS) (by omega) (by omega) (by omega) HC2.out HB.out (by omega) (by omega) (Nat.le_refl _) hl (by omega)).mono ?_; rintro e w2 ⟨rfl, hb2, hs2⟩)
                go_roundw
                case rel => exact ⟨2 * z, _, by omega, by omega, congrArg (Value.int .i64) (by omega), (symM_len _ _ _ _ _ _).trans HC2.out, hb2, hS.tr hs2, by rw [HR.out, mrgAll_go hz0 hzn, HR2.out, mrgRow_end hbn, if_pos hmn]⟩
                case measure => simp [intOf]; omega
              · go_wp2
                go_roundw
                case rel => exact ⟨2 * z, cw, by omega, by omega, congrArg (Value.int .i64) (by omega), HC2.out, HB.out, hS, by rw [HR.out, mrgAll_go hz0 hzn, HR2.out, mrgRow_end hbn, if_neg hmn]⟩
                case measure => simp [intOf]; omega
        · go_wp2
          go_end0
          refine ⟨rfl, ?_, hS⟩
          rw [HR.out, mrgAll_end hzn]
          exact HB.out
theorem sortStable_any (g c : Nat) (F : Nat) (caps : Array Value) (cf : Tsk → Tsk → Int) (l : List Tsk) (len : Nat) (rest : List Value) (w : World)
    (hF : ∀ args w, Sem.run Tryz.prog (callFunc F args) w = .ok (.enter F args) w) (hc : CmpOK F caps cf g w) (hlen : l.length = len) (hB : RB w g l rest) (hl : len ≤ 1000000) :
    Calls Tryz.prog 61 #[.slice (some ⟨g, 0, none⟩) len c, .func (.func F) #[] caps] w
      fun e w' => e = .returned (.tuple #[]) ∧ RB w' g (stableL (ltc cf) len l) rest ∧ Srt g w w' := by
  have H := Lib.hid (stableCmp_any g c F caps cf l len rest w hF hc hlen hB hl)
  clear hF hc hB
  go_enter Tryz.func61, Tryz.ntmps61
  go_wp2_with (go_at_call 104; refine H.out.mono ?_; rintro e w2 ⟨rfl, hb2, hs2⟩)
  go_end0
  exact ⟨rfl, hb2, hs2⟩
end Go.Proofs.YthhmbijblpjfpaaGreat
