/-
  Contracts: needs, kinds of messages.
-/
import Derived.Test.YtfldcobcnlgapaaGreatDoorVaSpec
import Derived.Test.YtfldcobcnlgapaaGreatDoorVaFloat
import Derived.Test.YtfldcobcnlgapaaGreatDoorGenS
set_option linter.unusedVariables false
set_option linter.unusedSimpArgs false
set_option maxRecDepth 100000
namespace Go.Va
abbrev Bs := List UInt8
theorem bool_ft : (false == true) = false := rfl
theorem bool_tf : (true == false) = false := rfl
/-- a whole number as a float of 64 bits -/
def fl (n : Nat) : Nat := FloatKind.f64.nearest (n : Int)
theorem fl_zero : fl 0 = 0 := nearest_zero
theorem order_fl (a b : Nat) (ha : a < 9007199254740992) (hb : b < 9007199254740992) : FloatKind.f64.format.order (fl a) (fl b) = some (compare a b) := order_nearest a b ha hb
theorem wrap_i64 {n : Int} (h1 : -9223372036854775808 ≤ n) (h2 : n ≤ 9223372036854775807) : IntKind.i64.wrap n = n := by
  simp [IntKind.wrap, IntKind.bits, IntKind.signed]
  omega
theorem ordeq (a b : Nat) : (some (compare a b) == some Ordering.eq) = decide (a = b) := by
  rw [Bool.eq_iff_iff]
  simp only [beq_iff_eq, Option.some.injEq, decide_eq_true_eq]
  exact Nat.compare_eq_eq
theorem ordlt (a b : Nat) : (some (compare a b) == some Ordering.lt) = decide (a < b) := by
  rw [Bool.eq_iff_iff]
  simp only [beq_iff_eq, Option.some.injEq, decide_eq_true_eq]
  exact Nat.compare_eq_lt
theorem ordgt (a b : Nat) : (some (compare a b) == some Ordering.gt) = decide (b < a) := by
  rw [Bool.eq_iff_iff]
  simp only [beq_iff_eq, Option.some.injEq, decide_eq_true_eq]
  exact Nat.compare_eq_gt
theorem abin_fl_geq {P : Program} {t : TypeId} (a b : Nat) (ha : a < 9007199254740992) (hb : b < 9007199254740992) : abin P .geq t (.float .f64 (fl a)) (.float .f64 (fl b)) = some (.bool (decide (b ≤ a))) := by
  simp only [abin, if_true, floatOp, order_fl a b ha hb, ordeq, ordgt]
  congr 2; rw [Bool.eq_iff_iff]; simp; omega
theorem abin_fl_leq {P : Program} {t : TypeId} (a b : Nat) (ha : a < 9007199254740992) (hb : b < 9007199254740992) : abin P .leq t (.float .f64 (fl a)) (.float .f64 (fl b)) = some (.bool (decide (a ≤ b))) := by
  simp only [abin, if_true, floatOp, order_fl a b ha hb, ordeq, ordlt]
  congr 2; rw [Bool.eq_iff_iff]; simp; omega
theorem abin_fl_eql {P : Program} {t : TypeId} (a b : Nat) (ha : a < 9007199254740992) (hb : b < 9007199254740992) : abin P .eql t (.float .f64 (fl a)) (.float .f64 (fl b)) = some (.bool (decide (a = b))) := by
  simp only [abin, if_true, floatOp, order_fl a b ha hb, ordeq]
theorem floatEqv_fl (a b : Nat) (ha : a < 9007199254740992) (hb : b < 9007199254740992) : floatEqv .f64 (fl a) (fl b) = decide (a = b) := by
  simp only [floatEqv, order_fl a b ha hb, ordeq]
theorem conv_fl (a : Nat) : convR (.int .i64) (.float .f64) (.int .i64 a) = some (.float .f64 (fl a)) := rfl
theorem conv_lf (a : Nat) (ha : a < 9007199254740992) : convR (.float .f64) (.int .i64) (.float .f64 (fl a)) = some (.int .i64 a) := by
  have h1 := toInt_nearest a ha
  have h3 : IntKind.i64.min = -9223372036854775808 := rfl
  have h4 : IntKind.i64.max = 9223372036854775807 := rfl
  simp only [convR, fl, h1, h3, h4]
  rw [if_pos (by omega)]

theorem c_need_part (a m : Nat) (ha : a < 9007199254740992) (hm : m < 9007199254740992) {H : AH} {K : AV → AH → Prop} (h : K (.bool (decide (a ≤ m))) H) : r_need_part [.float .f64 (fl a), .int .i64 m] H K := by
  have e0 : ∀ t : TypeId, abin PP .geq t (.float .f64 (fl a)) (.float .f64 0) = some (.bool (decide (0 ≤ a))) := fun t => by
    have := abin_fl_geq (P := PP) (t := t) a 0 ha (by omega)
    rwa [fl_zero] at this
  by_cases hle : a ≤ m
  · simpa [r_need_part, e0, conv_fl, conv_lf a ha, abin_fl_leq a m ha hm, abin_fl_eql a a ha ha, hle] using h
  · simpa [r_need_part, e0, conv_fl, conv_lf a ha, abin_fl_leq a m ha hm, abin_fl_eql a a ha ha, hle] using h
end Go.Va
