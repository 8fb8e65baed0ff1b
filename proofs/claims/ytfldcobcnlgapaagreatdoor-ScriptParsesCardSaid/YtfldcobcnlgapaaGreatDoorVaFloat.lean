/-
  Whole numbers as floats of 64 bits: exact up to 2^53.
-/
import Derived.Test.YtfldcobcnlgapaaGreatDoorVaPure
set_option linter.unusedVariables false
set_option linter.unusedSimpArgs false
namespace Go.Va
open Ieee

theorem log2ule {n k : Nat} (h0 : n ≠ 0) (h : n < 2 ^ k) : n.log2 < k := (Nat.log2_lt h0).2 h

theorem dbl : double.leastPlace = -1074 ∧ double.fractionBits = 52 ∧ double.binade = 4503599627370496 ∧ double.infRung = 2047 * 4503599627370496 ∧ double.signWeight = 2048 * 4503599627370496 :=
  ⟨by decide, rfl, by decide, by decide, by decide⟩

theorem nearest_at (n l B : Nat) (f : Format) (h0 : n ≠ 0) (hl : n.log2 = l) (hle : l ≤ 52) (h1 : f.leastPlace = -1074) (h2 : f.fractionBits = 52) (h3 : f.binade = B) (h4 : f.infRung = 2047 * B) (hi : n * 2 ^ (52 - l) < 2 * B) :
    f.nearest false n 0 = (l + 1022) * B + n * 2 ^ (52 - l) := by
  simp only [Format.nearest, h0, if_false, h1, h2, h3, h4, hl]
  have hmax : max ((0 : Int) + (l : Int) - ((52 : Nat) : Int)) (-1074) = (l : Int) - 52 := by omega
  rw [hmax]
  have s1 : ((0 : Int) - ((l : Int) - 52)).toNat = 52 - l := by omega
  have s2 : ((l : Int) - 52 - 0).toNat = 0 := by omega
  have s3 : ((l : Int) - 52 - -1074).toNat = l + 1022 := by omega
  rw [s1, s2, s3]
  have hcut : Toward.even.cut false (n <<< (52 - l)) 0 = n * 2 ^ (52 - l) := by
    simp [Toward.cut, Nat.shiftLeft_eq, Nat.mod_one]
  rw [hcut]
  simp only [Format.word, Bool.false_eq_true, if_false]
  generalize n * 2 ^ (52 - l) = m at *
  have : (l + 1022) * B ≤ 1074 * B := Nat.mul_le_mul_right _ (by omega)
  omega
theorem read_at (m l B : Nat) (f : Format) (hle : l ≤ 52) (h1 : f.leastPlace = -1074) (h3 : f.binade = B) (h4 : f.infRung = 2047 * B) (h5 : f.signWeight = 2048 * B) (lo : B ≤ m) (hi : m < 2 * B) :
    f.read ((l + 1022) * B + m) = .number false m ((l : Int) - 52) := by
  have hB : 0 < B := by omega
  have hk : (l + 1022) * B ≤ 1074 * B := Nat.mul_le_mul_right _ (by omega)
  have hk1 : 1022 * B ≤ (l + 1022) * B := Nat.mul_le_mul_right _ (by omega)
  simp only [Format.read, h1, h3, h4, h5]
  have hr : ((l + 1022) * B + m) < 2048 * B := by omega
  rw [Nat.div_eq_of_lt hr, Nat.mod_eq_of_lt hr]
  have hnl : ¬ ((l + 1022) * B + m) < B := by omega
  have hli : ((l + 1022) * B + m) < 2047 * B := by omega
  rw [if_neg hnl, if_pos hli]
  have e : (l + 1022) * B + m = (m - B) + B * (l + 1023) := by
    rw [Nat.mul_comm B, show l + 1023 = (l + 1022) + 1 from rfl, Nat.add_mul (l + 1022) 1 B]; omega
  have hm : ((l + 1022) * B + m) % B = m - B := by rw [e, Nat.add_mul_mod_self_left, Nat.mod_eq_of_lt (by omega)]
  have hd : ((l + 1022) * B + m) / B = l + 1023 := by rw [e, Nat.add_mul_div_left _ _ hB, Nat.div_eq_of_lt (by omega)]; omega
  rw [hm, hd]
  have e1 : B + (m - B) = m := by omega
  have e2 : (-1074 : Int) + ((l + 1023 - 1 : Nat) : Int) = (l : Int) - 52 := by omega
  rw [e1, e2]
  rfl

/-- What a whole number is, once it is a float. -/
theorem decode_nearest (n : Nat) (h0 : n ≠ 0) (h : n < 9007199254740992) :
    FloatKind.f64.decode (FloatKind.f64.nearest (n : Int)) = .number false (n * 2 ^ (52 - n.log2)) ((n.log2 : Int) - 52) := by
  obtain ⟨d1, d2, d3, d4, d5⟩ := dbl
  have hl : n.log2 ≤ 52 := by have := log2ule (k := 53) h0 (Nat.lt_of_lt_of_le h (by decide)); omega
  have h1 : 2 ^ n.log2 ≤ n := Nat.log2_self_le h0
  have h2 : n < 2 ^ (n.log2 + 1) := Nat.lt_log2_self
  have e1 : 2 ^ n.log2 * 2 ^ (52 - n.log2) = 4503599627370496 := by rw [← Nat.pow_add, show n.log2 + (52 - n.log2) = 52 by omega]
  have e2 : 2 ^ (n.log2 + 1) * 2 ^ (52 - n.log2) = 2 * 4503599627370496 := by rw [← Nat.pow_add, show n.log2 + 1 + (52 - n.log2) = 53 by omega]
  have lo : 4503599627370496 ≤ n * 2 ^ (52 - n.log2) := by rw [← e1]; exact Nat.mul_le_mul_right _ h1
  have hi : n * 2 ^ (52 - n.log2) < 2 * 4503599627370496 := by rw [← e2]; exact Nat.mul_lt_mul_of_pos_right h2 (Nat.pow_pos (by decide))
  have hneg : decide ((n : Int) < 0) = false := by simp
  have hnear : FloatKind.f64.nearest (n : Int) = (n.log2 + 1022) * 4503599627370496 + n * 2 ^ (52 - n.log2) := by
    show double.nearest (decide ((n : Int) < 0)) (n : Int).natAbs 0 = _
    rw [hneg, Int.natAbs_natCast]
    exact nearest_at n _ _ double h0 rfl hl d1 d2 d3 d4 hi
  rw [hnear]
  exact read_at _ _ _ double hl d1 d3 d4 d5 lo hi
theorem nearest_zero : FloatKind.f64.nearest (0 : Int) = 0 := by decide
theorem decode_zero : FloatKind.f64.decode 0 = .number false 0 (-1074) := by decide

/-- as a number of 2^-1074 -/
theorem decode_any (n : Nat) (h : n < 9007199254740992) : ∃ (m : Nat) (p : Nat), FloatKind.f64.decode (FloatKind.f64.nearest (n : Int)) = .number false m (-(p : Int)) ∧ (p ≤ 1074) ∧ m = n * 2 ^ (if n = 0 then 0 else p) := by
  by_cases h0 : n = 0
  · subst h0
    exact ⟨0, 1074, by rw [show ((0 : Nat) : Int) = 0 from rfl, nearest_zero, decode_zero]; rfl, by omega, by simp⟩
  · have hl : n.log2 ≤ 52 := by have := log2ule (k := 53) h0 (Nat.lt_of_lt_of_le h (by decide)); omega
    refine ⟨_, 52 - n.log2, ?_, by omega, by rw [if_neg h0]⟩
    rw [decode_nearest n h0 h]
    congr 1
    omega

/-- Whole numbers as floats stand in their order. -/
theorem order_nearest (a b : Nat) (ha : a < 9007199254740992) (hb : b < 9007199254740992) : FloatKind.f64.format.order (FloatKind.f64.nearest (a : Int)) (FloatKind.f64.nearest (b : Int)) = some (compare a b) := by
  obtain ⟨m, p, e1, p1, hm⟩ := decode_any a ha
  obtain ⟨n, q, e2, q1, hn⟩ := decode_any b hb
  simp only [FloatKind.decode] at e1 e2
  unfold Format.order
  rw [e1, e2]
  simp only [Datum.order, signed, Bool.false_eq_true, if_false]
  congr 1
  -- both over one power of two
  have s1 : ((-(p : Int)) - min (-(p : Int)) (-(q : Int))).toNat = max p q - p := by omega
  have s2 : ((-(q : Int)) - min (-(p : Int)) (-(q : Int))).toNat = max p q - q := by omega
  rw [s1, s2]
  have k : ∀ (x r y : Nat), r ≤ max p q → y = x * 2 ^ (if x = 0 then 0 else r) → y <<< (max p q - r) = x * 2 ^ max p q := by
    intro x r y hr hy
    rw [Nat.shiftLeft_eq, hy]
    by_cases h0 : x = 0
    · subst h0; simp
    · rw [if_neg h0, Nat.mul_assoc, ← Nat.pow_add]; congr 2; omega
  rw [k a p m (Nat.le_max_left _ _) hm, k b q n (Nat.le_max_right _ _) hn]
  have hpos : 0 < 2 ^ max p q := Nat.pow_pos (by decide)
  generalize 2 ^ max p q = c at hpos
  rcases Nat.lt_trichotomy a b with h | h | h
  · rw [Nat.compare_eq_lt.2 h]
    have : a * c < b * c := Nat.mul_lt_mul_of_pos_right h hpos
    show compareOfLessAndEq _ _ = _
    unfold compareOfLessAndEq
    rw [if_pos (by omega)]
  · subst h; simp
  · rw [Nat.compare_eq_gt.2 h]
    have : b * c < a * c := Nat.mul_lt_mul_of_pos_right h hpos
    show compareOfLessAndEq _ _ = _
    unfold compareOfLessAndEq
    rw [if_neg (by omega), if_neg (by omega)]

theorem toInt_nearest (n : Nat) (h : n < 9007199254740992) : (FloatKind.f64.decode (FloatKind.f64.nearest (n : Int))).toInt .zero = some (n : Int) := by
  by_cases h0 : n = 0
  · subst h0; rw [show ((0 : Nat) : Int) = 0 from rfl, nearest_zero, decode_zero]; decide
  · have hl : n.log2 ≤ 52 := by have := log2ule (k := 53) h0 (Nat.lt_of_lt_of_le h (by decide)); omega
    have h1 : 2 ^ n.log2 ≤ n := Nat.log2_self_le h0
    rw [decode_nearest n h0 h]
    simp only [Datum.toInt, Datum.integral, signed, Bool.false_eq_true, if_false]
    have s1 : ((n.log2 : Int) - 52).toNat = 0 := by omega
    have s2 : (-((n.log2 : Int) - 52)).toNat = 52 - n.log2 := by omega
    rw [s1, s2]
    have hbig : 52 - n.log2 ≤ (n * 2 ^ (52 - n.log2)).log2 + 2 := by
      have : 2 ^ (52 - n.log2) ≤ n * 2 ^ (52 - n.log2) := Nat.le_mul_of_pos_left _ (by omega)
      have := (Nat.le_log2 (by have := Nat.pow_pos (n := 52 - n.log2) (show 0 < 2 by decide); omega)).2 this
      omega
    have hcut : Toward.zero.cut false ((n * 2 ^ (52 - n.log2)) <<< 0) (52 - n.log2) = n := by
      simp only [Toward.cut, Nat.shiftLeft_zero, Bool.toNat_false, Nat.add_zero]
      rw [Nat.min_eq_left hbig, Nat.shiftLeft_eq, Nat.one_mul]
      exact Nat.mul_div_cancel _ (Nat.pow_pos (by decide))
    rw [hcut]
    simp
end Go.Va
