/- The walks of package flt: what its functions come to, on a float's bits. -/
import Derived.Test.YthhmbijblpjfpaaGreatProg
import Derived.Test.YthhmbijblpjfpaaGreatBlk
import Derived.KernelRfl
import Derived.Laws.Externs
namespace Go.Proofs.YthhmbijblpjfpaaGreat
open Go.RowKit

def fNan (x : Nat) : Bool := FloatKind.f64.format.order x x != some Ordering.eq
def fNeg (x : Nat) : Bool := FloatKind.f64.format.order x 0 == some Ordering.lt
def fPos (x : Nat) : Bool := FloatKind.f64.format.order x 0 == some Ordering.gt
noncomputable def fOpp : Nat → Nat := Classical.choose (laid fun (x : Nat) => (Op.negFloat .f64 x : Nat))
theorem fOpp_eq (x : Nat) : fOpp x = (Op.negFloat .f64 x : Nat) := laid1 _ x


noncomputable def fBits : Nat → Int := Classical.choose (laid fun (x : Nat) => ((x : Int) : Int))
theorem fBits_eq (x : Nat) : fBits x = ((x : Int) : Int) := laid1 _ x


noncomputable def fOfBits : Int → Nat := Classical.choose (laid fun (k : Int) => (k.toNat : Nat))
theorem fOfBits_eq (k : Int) : fOfBits k = (k.toNat : Nat) := laid1 _ k


noncomputable def fInfP : Nat → Bool := Classical.choose (laid fun (x : Nat) => (FloatKind.f64.format.order x 9218868437227405311 == some Ordering.gt : Bool))
theorem fInfP_eq (x : Nat) : fInfP x = (FloatKind.f64.format.order x 9218868437227405311 == some Ordering.gt : Bool) := laid1 _ x


noncomputable def fInfN : Nat → Bool := Classical.choose (laid fun (x : Nat) => (FloatKind.f64.format.order (fOpp x) 9218868437227405311 == some Ordering.gt : Bool))
theorem fInfN_eq (x : Nat) : fInfN x = (FloatKind.f64.format.order (fOpp x) 9218868437227405311 == some Ordering.gt : Bool) := laid1 _ x


noncomputable def fClass : Nat → Int := Classical.choose (laid fun (x : Nat) => (if fNan x then 0 else if fInfN x then 1 else if fInfP x then 5 else if fNeg x then 2 else if fPos x then 4 else 3 : Int))
theorem fClass_eq (x : Nat) : fClass x = (if fNan x then 0 else if fInfN x then 1 else if fInfP x then 5 else if fNeg x then 2 else if fPos x then 4 else 3 : Int) := laid1 _ x


noncomputable def fTheNan : Nat := Classical.choose (laid (fOfBits 9221120237041090561 : Nat))
theorem fTheNan_eq : fTheNan = (fOfBits 9221120237041090561 : Nat) := laid0 _


noncomputable def fCanon : Nat → Nat := Classical.choose (laid fun (x : Nat) => (if fClass x == 0 then fTheNan else if fClass x == 3 then 0 else x : Nat))
theorem fCanon_eq (x : Nat) : fCanon x = (if fClass x == 0 then fTheNan else if fClass x == 3 then 0 else x : Nat) := laid1 _ x


noncomputable def fKey : Nat → Int := Classical.choose (laid fun (x : Nat) => (if fNan x then 0 else if fBits (fCanon x) < 9223372036854775808 then bits .or .u64 (fBits (fCanon x)) 9223372036854775808 else bits .xor .u64 IntKind.u64.max (fBits (fCanon x)) : Int))
theorem fKey_eq (x : Nat) : fKey x = (if fNan x then 0 else if fBits (fCanon x) < 9223372036854775808 then bits .or .u64 (fBits (fCanon x)) 9223372036854775808 else bits .xor .u64 IntKind.u64.max (fBits (fCanon x)) : Int) := laid1 _ x


noncomputable def fBack : Int → Int := Classical.choose (laid fun (k : Int) => (if 9223372036854775808 ≤ k then bits .andNot .u64 k 9223372036854775808 else bits .xor .u64 IntKind.u64.max k : Int))
theorem fBack_eq (k : Int) : fBack k = (if 9223372036854775808 ≤ k then bits .andNot .u64 k 9223372036854775808 else bits .xor .u64 IntKind.u64.max k : Int) := laid1 _ k


noncomputable def fOf : Int → (Nat × Bool) := Classical.choose (laid fun (k : Int) => (if k == 0 then (fCanon fTheNan, true) else if fNan (fOfBits (fBack k)) then (0, false) else if fBack k == 9223372036854775808 then (0, false) else (fOfBits (fBack k), true) : Nat × Bool))
theorem fOf_eq (k : Int) : fOf k = (if k == 0 then (fCanon fTheNan, true) else if fNan (fOfBits (fBack k)) then (0, false) else if fBack k == 9223372036854775808 then (0, false) else (fOfBits (fBack k), true) : Nat × Bool) := laid1 _ k


noncomputable def fPlace : Nat → Int := Classical.choose (laid fun (x : Nat) => (if 9223372036854775807 < fKey x then IntKind.u64.wrap (fKey x - 1) else fKey x : Int))
theorem fPlace_eq (x : Nat) : fPlace x = (if 9223372036854775807 < fKey x then IntKind.u64.wrap (fKey x - 1) else fKey x : Int) := laid1 _ x


noncomputable def fAt : Int → Nat := Classical.choose (laid fun (k : Int) => ((fOf (if 9223372036854775807 ≤ k then IntKind.u64.wrap (k + 1) else k)).1 : Nat))
theorem fAt_eq (k : Int) : fAt k = ((fOf (if 9223372036854775807 ≤ k then IntKind.u64.wrap (k + 1) else k)).1 : Nat) := laid1 _ k


noncomputable def fSteps : Nat → Nat → Int := Classical.choose (laid fun (x : Nat) (y : Nat) => (if !decide (fKey x < fKey y) then 0 else if fNan x then IntKind.u64.wrap (fPlace y - fPlace (fOfBits 18442240474082181120)) else IntKind.u64.wrap (IntKind.u64.wrap (fPlace y - fPlace x) - 1) : Int))
theorem fSteps_eq (x : Nat) (y : Nat) : fSteps x y = (if !decide (fKey x < fKey y) then 0 else if fNan x then IntKind.u64.wrap (fPlace y - fPlace (fOfBits 18442240474082181120)) else IntKind.u64.wrap (IntKind.u64.wrap (fPlace y - fPlace x) - 1) : Int) := laid2 _ x y


noncomputable def fMid : Nat → Nat → (Nat × Bool) := Classical.choose (laid fun (x : Nat) (y : Nat) => (if fNan x then (0, false) else if fNan y then (0, false) else if fSteps x y == 0 then (0, false) else
    (fAt (IntKind.u64.wrap (IntKind.u64.wrap (fPlace x + 1) + IntKind.u64.wrap ((fSteps x y).tdiv 2))), true) : Nat × Bool))
theorem fMid_eq (x : Nat) (y : Nat) : fMid x y = (if fNan x then (0, false) else if fNan y then (0, false) else if fSteps x y == 0 then (0, false) else
    (fAt (IntKind.u64.wrap (IntKind.u64.wrap (fPlace x + 1) + IntKind.u64.wrap ((fSteps x y).tdiv 2))), true) : Nat × Bool) := laid2 _ x y


theorem bits_run (x : Nat) (w : World) : Sem.run Tryz.prog (callFunc 106 #[.float .f64 x]) w = .ok (.value (.int .u64 (fBits x))) w := by
  rw [run_callFunc_extern (fn := Tryz.f106) Tryz.func106 (by kernel_rfl) rfl (by kernel_rfl) (e := Extern.MathFloatBits.float64bits) (by kernel_rfl), fBits_eq]
  rfl
theorem frombits_run (k : Int) (w : World) : Sem.run Tryz.prog (callFunc 144 #[.int .u64 k]) w = .ok (.value (.float .f64 (fOfBits k))) w := by
  rw [run_callFunc_extern (fn := Tryz.f144) Tryz.func144 (by kernel_rfl) rfl (by kernel_rfl) (e := Extern.MathFloatBits.float64frombits) (by kernel_rfl), fOfBits_eq]
  rfl
theorem fneg_run (x : Nat) (w : World) : Sem.run Tryz.prog (Op.unary .neg (.float .f64 x)) w = .ok (.float .f64 (fOpp x)) w := by rw [fOpp_eq]; rfl

theorem isInf_pos (x : Nat) (w : World) : Calls Tryz.prog 178 #[.float .f64 x, .int .i64 1] w fun e w' => e = .returned (.bool (fInfP x)) ∧ w = w' := by
  rw [fInfP_eq]
  go_enter Tryz.func178, Tryz.ntmps178
  go_wp2
  go_ret
  refine ⟨?_, rfl⟩
  rfl
theorem isInf_neg (x : Nat) (w : World) : Calls Tryz.prog 178 #[.float .f64 x, .int .i64 (-1)] w fun e w' => e = .returned (.bool (fInfN x)) ∧ w = w' := by
  rw [fInfN_eq]
  have hn := fneg_run
  go_enter Tryz.func178, Tryz.ntmps178
  go_wp2
  go_ret
  refine ⟨?_, rfl⟩
  rfl
theorem class_any (x : Nat) (w : World) : Calls Tryz.prog 143 #[.float .f64 x] w fun e w' => e = .returned (.int .i64 (fClass x)) ∧ w = w' := by
  go_enter Tryz.func143, Tryz.ntmps143
  go_wp2_with (first | ((with_reducible refine (isInf_neg x _).mono ?_); rintro e w' ⟨rfl, rfl⟩) | ((with_reducible refine (isInf_pos x _).mono ?_); rintro e w' ⟨rfl, rfl⟩))
  all_goals
    go_ret
    refine ⟨?_, rfl⟩
    rw [fClass_eq]
    simp [fNan, fNeg, fPos, *]
theorem canon_any (x : Nat) (w : World) : Calls Tryz.prog 107 #[.float .f64 x] w fun e w' => e = .returned (.float .f64 (fCanon x)) ∧ w = w' := by
  have hb := frombits_run
  go_enter Tryz.func107, Tryz.ntmps107
  go_wp2_with (first | (go_at_call 143; refine (class_any x _).mono ?_; rintro e w' ⟨rfl, rfl⟩))
  all_goals
    go_ret
    refine ⟨?_, rfl⟩
    rw [fCanon_eq]
    simp [fTheNan_eq, *]
theorem fbits_any (x : Nat) (w : World) : Calls Tryz.prog 126 #[.float .f64 x] w fun e w' => e = .returned (.int .u64 (fBits x)) ∧ w = w' := by
  have hb := bits_run
  go_enter Tryz.func126, Tryz.ntmps126
  go_wp2
  go_ret
  refine ⟨?_, rfl⟩
  rfl
theorem key_any (x : Nat) (w : World) : Calls Tryz.prog 65 #[.float .f64 x] w fun e w' => e = .returned (.int .u64 (fKey x)) ∧ w = w' := by
  have hb := bits_run
  go_enter Tryz.func65, Tryz.ntmps65
  go_wp2_with (first | (go_at_call 107; refine (canon_any x _).mono ?_; rintro e w' ⟨rfl, rfl⟩))
  all_goals
    go_ret
    refine ⟨?_, rfl⟩
    rw [fKey_eq]
    first | (simp [fNan, *]; done) | (rw [if_neg (by simp [fNan, *]), if_neg (by omega)]; rfl)
theorem less_any (x y : Nat) (w : World) : Calls Tryz.prog 145 #[.float .f64 x, .float .f64 y] w fun e w' => e = .returned (.bool (decide (fKey x < fKey y))) ∧ w = w' := by
  go_enter Tryz.func145, Tryz.ntmps145
  go_wp2_with (first | (go_at_call 65; refine (key_any _ _).mono ?_; rintro e w' ⟨rfl, rfl⟩))
  go_ret
  refine ⟨?_, rfl⟩
  rfl
theorem of_any (k : Int) (w : World) : Calls Tryz.prog 146 #[.int .u64 k] w fun e w' => e = .returned (.tuple #[.float .f64 (fOf k).1, .bool (fOf k).2]) ∧ w = w' := by
  have hb := frombits_run
  by_cases hk : 9223372036854775808 ≤ k
  · have HB := Lib.hid (show fBack k = bits .andNot .u64 k 9223372036854775808 from by rw [fBack_eq, if_pos hk])
    go_enter Tryz.func146, Tryz.ntmps146
    go_wp2_with (first | (go_at_call 107; refine (canon_any _ _).mono ?_; rintro e w' ⟨rfl, rfl⟩) | go_in)
    all_goals
      go_ret2
      refine ⟨?_, rfl⟩
      rw [fOf_eq, HB.out]
      simp [fNan, fTheNan_eq, *]
  · have HB := Lib.hid (show fBack k = bits .xor .u64 IntKind.u64.max k from by rw [fBack_eq, if_neg hk])
    go_enter Tryz.func146, Tryz.ntmps146
    go_wp2_with (first | (go_at_call 107; refine (canon_any _ _).mono ?_; rintro e w' ⟨rfl, rfl⟩) | go_in)
    all_goals
      go_ret2
      refine ⟨?_, rfl⟩
      rw [fOf_eq, HB.out]
      simp [fNan, fTheNan_eq, *]
theorem place_any (x : Nat) (w : World) : Calls Tryz.prog 113 #[.float .f64 x] w fun e w' => e = .returned (.int .u64 (fPlace x)) ∧ w = w' := by
  go_enter Tryz.func113, Tryz.ntmps113
  go_wp2_with (first | (go_at_call 65; refine (key_any x _).mono ?_; rintro e w' ⟨rfl, rfl⟩))
  · have h : 9223372036854775807 < fKey x := by assumption
    go_ret
    refine ⟨?_, rfl⟩
    rw [fPlace_eq, if_pos h]
    rfl
  · have h : fKey x ≤ 9223372036854775807 := by assumption
    go_ret
    refine ⟨?_, rfl⟩
    rw [fPlace_eq, if_neg (by omega)]
    rfl
theorem at_any (k : Int) (w : World) : Calls Tryz.prog 112 #[.int .u64 k] w fun e w' => e = .returned (.float .f64 (fAt k)) ∧ w = w' := by
  rw [fAt_eq]
  by_cases hk : 9223372036854775807 ≤ k
  · rw [if_pos hk]
    go_enter Tryz.func112, Tryz.ntmps112
    go_wp2_with (first | (go_at_call 146; refine (of_any _ _).mono ?_; rintro e w' ⟨rfl, rfl⟩))
    go_ret
    refine ⟨?_, rfl⟩
    rfl
  · rw [if_neg hk]
    go_enter Tryz.func112, Tryz.ntmps112
    go_wp2_with (first | (go_at_call 146; refine (of_any _ _).mono ?_; rintro e w' ⟨rfl, rfl⟩))
    go_ret
    refine ⟨?_, rfl⟩
    rfl
theorem inf_pos (w : World) : Calls Tryz.prog 110 #[.int .i64 1] w fun e w' => e = .returned (.float .f64 (fOfBits 9218868437227405312)) ∧ w = w' := by
  have hb := frombits_run
  go_enter Tryz.func110, Tryz.ntmps110
  go_wp2
  go_ret
  refine ⟨?_, rfl⟩
  rfl
theorem inf_neg (w : World) : Calls Tryz.prog 110 #[.int .i64 (-1)] w fun e w' => e = .returned (.float .f64 (fOfBits 18442240474082181120)) ∧ w = w' := by
  have hb := frombits_run
  go_enter Tryz.func110, Tryz.ntmps110
  go_wp2
  go_ret
  refine ⟨?_, rfl⟩
  rfl
theorem steps_any (x y : Nat) (w : World) : Calls Tryz.prog 111 #[.float .f64 x, .float .f64 y] w fun e w' => e = .returned (.int .u64 (fSteps x y)) ∧ w = w' := by
  go_enter Tryz.func111, Tryz.ntmps111
  go_wp2_with (first
    | (go_at_call 113; refine (place_any _ _).mono ?_; rintro e w' ⟨rfl, rfl⟩)
    | (go_at_call 110; refine (inf_neg _).mono ?_; rintro e w' ⟨rfl, rfl⟩)
    | (go_at_call 145; refine (less_any _ _ _).mono ?_; rintro e w' ⟨rfl, rfl⟩))
  all_goals
    go_ret
    refine ⟨?_, rfl⟩
    rw [fSteps_eq]
    simp [fNan, *]
theorem mid_any (x y : Nat) (w : World) : Calls Tryz.prog 68 #[.float .f64 x, .float .f64 y] w fun e w' => e = .returned (.tuple #[.float .f64 (fMid x y).1, .bool (fMid x y).2]) ∧ w = w' := by
  go_enter Tryz.func68, Tryz.ntmps68
  go_wp2_with (first
    | (go_at_call 113; refine (place_any _ _).mono ?_; rintro e w' ⟨rfl, rfl⟩)
    | (go_at_call 111; refine (steps_any _ _ _).mono ?_; rintro e w' ⟨rfl, rfl⟩)
    | (go_at_call 112; refine (at_any _ _).mono ?_; rintro e w' ⟨rfl, rfl⟩))
  all_goals
    go_ret2
    refine ⟨?_, rfl⟩
    rw [fMid_eq]
    simp [fNan, *]
end Go.Proofs.YthhmbijblpjfpaaGreat
