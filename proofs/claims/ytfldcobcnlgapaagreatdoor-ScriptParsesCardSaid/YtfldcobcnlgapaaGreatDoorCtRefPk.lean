/-
  Texts of this claim, one behind the other: what each holds stands at its head.
-/
import Derived.Test.YtfldcobcnlgapaaGreatDoorCtParsePk
import Derived.Test.YtfldcobcnlgapaaGreatDoorGenT
/-
  Contracts: the document's own answers on names, needs, numbers, messages.
-/
set_option linter.unusedVariables false
set_option linter.unusedSimpArgs false
set_option maxRecDepth 100000
namespace Go.Va
section
variable {K : AV → AH → Prop} {H : AH}
theorem i_succ {i : Nat} (h : i < 9223372036854775807) : IntKind.i64.wrap ((i : Int) + 1) = ((i + 1 : Nat) : Int) := by rw [wrap_i64 (by omega) (by omega)]; omega
theorem drop_at {α : Type} {l : List α} {i : Nat} {x : α} {r : List α} (h : l.drop i = x :: r) : l[i]? = some x ∧ i < l.length ∧ l.drop (i + 1) = r ∧ l.take (i + 1) = l.take i ++ [x] := by
  have hx : l[i]? = some x := by
    have := congrArg (fun l => l[0]?) h
    simpa using this
  have hlt : i < l.length := (List.getElem?_eq_some_iff.1 hx).1
  refine ⟨hx, hlt, by rw [← List.drop_drop, h]; rfl, ?_⟩
  rw [List.take_add_one, hx]; rfl
theorem c_Right_loop (s : Bs) (hs : s.length ≤ 1000000000) (h : K (.bool (rightN s)) H) : ∀ (r : Bs) (i : Nat), s.drop i = r → (s.take i).all isNm = true → LoopP (r_hostlerref01uRight_p52 K) [.str s, .int .i64 i] H
  | [], i, hr, ha => by
    refine .fold ?_
    have hi : s.length ≤ i := by simpa using hr
    have hlt : ¬ ((i : Int) < (s.length : Int)) := by omega
    rw [List.take_of_length_le hi] at ha
    have e1 : decide ((s.length : Int) ≥ 1) = (s != []) := by
      rw [Bool.eq_iff_iff, decide_eq_true_eq, bne_iff_ne]
      cases s <;> simp <;> omega
    have e2 : decide ((s.length : Int) ≤ 8) = decide (s.length ≤ 8) := by
      rw [Bool.eq_iff_iff, decide_eq_true_eq, decide_eq_true_eq]; omega
    simp only [rightN, ha, Bool.and_true] at h
    simp only [r_hostlerref01uRight_p52, abin_i_add, abin_i_sub, abin_i_mul, abin_i_eql, abin_i_neq, abin_i_lss, abin_i_leq, abin_i_gtr, abin_i_geq, abin_s_eql, abin_s_neq, bnd_some, bnd_none, branch_bool, gwant_bool, gwant_nothing, aguard_some, wantE_some, pickV_bool, nilck_ptr, nilck_elem, aoff_ptr, aoff_elem, aun_not, aun_neg, lenStr_str, lenSl_nils, lenSl_sl, lenSl_osl, aextract_tup, ld1uelem, idxStr_str, amin2uint, amax2uint, rangeStr_str, sliceStr_from, sliceStr_to, List.getElem?_cons_zero, List.getElem?_cons_succ, Option.map_some, Option.bind_some, Int.toNat_natCast, Int.toNat_zero, Int.le_refl, Bool.not_true, Bool.not_false, Bool.not_not, Bool.false_eq_true, if_true, if_false, decide_eq_true_eq, beq_self_eq_true, bool_ft, bool_tf, decide_true, decide_false, reduceCtorEq, cmpNil, cmpRes, boxCells, AV.known, AV.cells, Nat.zero_add, and_self, and_true, true_and, ite_self, forall_const, not_true_eq_false, not_false_eq_true, hlt, e1, e2]
    cases hb : (s != []) <;> simpa [hb] using h
  | c :: r, i, hr, ha => by
    refine .fold ?_
    obtain ⟨hx, hlt, hr', ht⟩ := drop_at hr
    have h1 : ((i : Int) < (s.length : Int)) := by omega
    have h2 : (0 : Int) ≤ (i : Int) := by omega
    have ih := c_Right_loop s hs h r (i + 1) hr'
    rw [ht, List.all_append, ha] at ih
    have hy : ((97 : Int) ≤ c.toNat ∧ (c.toNat : Int) ≤ 122 ∨ (48 : Int) ≤ c.toNat ∧ (c.toNat : Int) ≤ 57) → LoopP (r_hostlerref01uRight_p52 K) [.str s, .int .i64 ((i + 1 : Nat) : Int)] H := fun hc => ih (by simp [isNm]; omega)
    have hno : ¬ ((97 : Int) ≤ c.toNat ∧ (c.toNat : Int) ≤ 122 ∨ (48 : Int) ≤ c.toNat ∧ (c.toNat : Int) ≤ 57) → K (.bool false) H := fun hc => by
      have h0 : isNm c = false := by simp [isNm]; omega
      have : s.all isNm = false := by
        rw [List.all_eq_false]; exact ⟨c, List.mem_of_getElem? hx, by simp [h0]⟩
      simpa [rightN, this] using h
    by_cases p1 : (97 : Int) ≤ c.toNat <;> by_cases p2 : (c.toNat : Int) ≤ 122 <;> by_cases p3 : (48 : Int) ≤ c.toNat <;> by_cases p4 : (c.toNat : Int) ≤ 57 <;>
      simp only [r_hostlerref01uRight_p52, abin_i_add, abin_i_sub, abin_i_mul, abin_i_eql, abin_i_neq, abin_i_lss, abin_i_leq, abin_i_gtr, abin_i_geq, abin_s_eql, abin_s_neq, bnd_some, bnd_none, branch_bool, gwant_bool, gwant_nothing, aguard_some, wantE_some, pickV_bool, nilck_ptr, nilck_elem, aoff_ptr, aoff_elem, aun_not, aun_neg, lenStr_str, lenSl_nils, lenSl_sl, lenSl_osl, aextract_tup, ld1uelem, idxStr_str, amin2uint, amax2uint, rangeStr_str, sliceStr_from, sliceStr_to, List.getElem?_cons_zero, List.getElem?_cons_succ, Option.map_some, Option.bind_some, Int.toNat_natCast, Int.toNat_zero, Int.le_refl, Bool.not_true, Bool.not_false, Bool.not_not, Bool.false_eq_true, if_true, if_false, decide_eq_true_eq, beq_self_eq_true, bool_ft, bool_tf, decide_true, decide_false, reduceCtorEq, cmpNil, cmpRes, boxCells, AV.known, AV.cells, Nat.zero_add, and_self, and_true, true_and, ite_self, forall_const, not_true_eq_false, not_false_eq_true, h1, h2, hx, ge_iff_le, i_succ (show i < 9223372036854775807 by omega), p1, p2, p3, p4] <;>
      first | exact hy (by omega) | exact hno (by omega)
theorem c_ref_Right (s : Bs) (hs : s.length ≤ 1000000000) (h : K (.bool (rightN s)) H) : r_hostlerref01uRight [.str s] H K :=
  c_Right_loop s hs h s 0 rfl (by simp)
theorem c_has_loop (s : Bs) (hs : s.length ≤ 1000000000) (f : UInt8) (h : K (.bool (s.contains f)) H) : ∀ (r : Bs) (i : Nat), s.drop i = r → s.contains f = r.contains f → LoopP (r_hostlerref01uhas_p52 K) [.str s, .int .u8 f.toNat, .int .i64 i] H
  | [], i, hr, ha => by
    refine .fold ?_
    have hi : s.length ≤ i := by simpa using hr
    have hlt : ¬ ((i : Int) < (s.length : Int)) := by omega
    rw [ha] at h
    simp only [r_hostlerref01uhas_p52, abin_i_add, abin_i_sub, abin_i_mul, abin_i_eql, abin_i_neq, abin_i_lss, abin_i_leq, abin_i_gtr, abin_i_geq, abin_s_eql, abin_s_neq, bnd_some, bnd_none, branch_bool, gwant_bool, gwant_nothing, aguard_some, wantE_some, pickV_bool, nilck_ptr, nilck_elem, aoff_ptr, aoff_elem, aun_not, aun_neg, lenStr_str, lenSl_nils, lenSl_sl, lenSl_osl, aextract_tup, ld1uelem, idxStr_str, amin2uint, amax2uint, rangeStr_str, sliceStr_from, sliceStr_to, List.getElem?_cons_zero, List.getElem?_cons_succ, Option.map_some, Option.bind_some, Int.toNat_natCast, Int.toNat_zero, Int.le_refl, Bool.not_true, Bool.not_false, Bool.not_not, Bool.false_eq_true, if_true, if_false, decide_eq_true_eq, beq_self_eq_true, bool_ft, bool_tf, decide_true, decide_false, reduceCtorEq, cmpNil, cmpRes, boxCells, AV.known, AV.cells, Nat.zero_add, and_self, and_true, true_and, ite_self, forall_const, not_true_eq_false, not_false_eq_true, hlt]
    exact h
  | c :: r, i, hr, ha => by
    refine .fold ?_
    obtain ⟨hx, hlt, hr', ht⟩ := drop_at hr
    have h1 : ((i : Int) < (s.length : Int)) := by omega
    have h2 : (0 : Int) ≤ (i : Int) := by omega
    have he : ((c.toNat : Int) == (f.toNat : Int)) = (f == c) := by
      rw [Bool.eq_iff_iff, beq_iff_eq, beq_iff_eq]
      exact ⟨fun h => (UInt8.toNat_inj.1 (by omega)), fun h => by rw [h]⟩
    rw [List.contains_cons] at ha
    simp only [r_hostlerref01uhas_p52, abin_i_add, abin_i_sub, abin_i_mul, abin_i_eql, abin_i_neq, abin_i_lss, abin_i_leq, abin_i_gtr, abin_i_geq, abin_s_eql, abin_s_neq, bnd_some, bnd_none, branch_bool, gwant_bool, gwant_nothing, aguard_some, wantE_some, pickV_bool, nilck_ptr, nilck_elem, aoff_ptr, aoff_elem, aun_not, aun_neg, lenStr_str, lenSl_nils, lenSl_sl, lenSl_osl, aextract_tup, ld1uelem, idxStr_str, amin2uint, amax2uint, rangeStr_str, sliceStr_from, sliceStr_to, List.getElem?_cons_zero, List.getElem?_cons_succ, Option.map_some, Option.bind_some, Int.toNat_natCast, Int.toNat_zero, Int.le_refl, Bool.not_true, Bool.not_false, Bool.not_not, Bool.false_eq_true, if_true, if_false, decide_eq_true_eq, beq_self_eq_true, bool_ft, bool_tf, decide_true, decide_false, reduceCtorEq, cmpNil, cmpRes, boxCells, AV.known, AV.cells, Nat.zero_add, and_self, and_true, true_and, ite_self, forall_const, not_true_eq_false, not_false_eq_true, h1, h2, hx, i_succ (show i < 9223372036854775807 by omega), he]
    cases hc : (f == c) with
    | true => rw [ha, hc] at h; simpa using h
    | false =>
      rw [hc, Bool.false_or] at ha
      simpa using c_has_loop s hs f h r (i + 1) hr' ha
theorem c_ref_has (s : Bs) (hs : s.length ≤ 1000000000) (f : UInt8) (h : K (.bool (s.contains f)) H) : r_hostlerref01uhas [.str s, .int .u8 f.toNat] H K :=
  c_has_loop s hs f h s 0 rfl rfl
theorem c_ref_text (s : Bs) (hs : s.length ≤ 1000000000) (b : Bool) (h : K (.bool (if b then rightN s else s == [])) H) : r_hostlerref01utext [.str s, .bool b] H K := by
  cases b with
  | true =>
    simp only [r_hostlerref01utext, abin_i_add, abin_i_sub, abin_i_mul, abin_i_eql, abin_i_neq, abin_i_lss, abin_i_leq, abin_i_gtr, abin_i_geq, abin_s_eql, abin_s_neq, bnd_some, bnd_none, branch_bool, gwant_bool, gwant_nothing, aguard_some, wantE_some, pickV_bool, nilck_ptr, nilck_elem, aoff_ptr, aoff_elem, aun_not, aun_neg, lenStr_str, lenSl_nils, lenSl_sl, lenSl_osl, aextract_tup, ld1uelem, idxStr_str, amin2uint, amax2uint, rangeStr_str, sliceStr_from, sliceStr_to, List.getElem?_cons_zero, List.getElem?_cons_succ, Option.map_some, Option.bind_some, Int.toNat_natCast, Int.toNat_zero, Int.le_refl, Bool.not_true, Bool.not_false, Bool.not_not, Bool.false_eq_true, if_true, if_false, decide_eq_true_eq, beq_self_eq_true, bool_ft, bool_tf, decide_true, decide_false, reduceCtorEq, cmpNil, cmpRes, boxCells, AV.known, AV.cells, Nat.zero_add, and_self, and_true, true_and, ite_self, forall_const, not_true_eq_false, not_false_eq_true]
    refine c_ref_Right s hs ?_
    simp only [if_true] at h
    cases hb : rightN s <;> simpa [hb] using h
  | false => simpa [r_hostlerref01utext] using h
theorem c_ref_field (n m : Int) (b : Bool) (h : K (.bool (if b then decide (1 ≤ n) && decide (n ≤ m) else n == 0)) H) : r_hostlerref01ufield [.int .i64 n, .bool b, .int .i64 m] H K := by
  cases b with
  | true =>
    simp only [if_true] at h
    simp only [r_hostlerref01ufield, abin_i_add, abin_i_sub, abin_i_mul, abin_i_eql, abin_i_neq, abin_i_lss, abin_i_leq, abin_i_gtr, abin_i_geq, abin_s_eql, abin_s_neq, bnd_some, bnd_none, branch_bool, gwant_bool, gwant_nothing, aguard_some, wantE_some, pickV_bool, nilck_ptr, nilck_elem, aoff_ptr, aoff_elem, aun_not, aun_neg, lenStr_str, lenSl_nils, lenSl_sl, lenSl_osl, aextract_tup, ld1uelem, idxStr_str, amin2uint, amax2uint, rangeStr_str, sliceStr_from, sliceStr_to, List.getElem?_cons_zero, List.getElem?_cons_succ, Option.map_some, Option.bind_some, Int.toNat_natCast, Int.toNat_zero, Int.le_refl, Bool.not_true, Bool.not_false, Bool.not_not, Bool.false_eq_true, if_true, if_false, decide_eq_true_eq, beq_self_eq_true, bool_ft, bool_tf, decide_true, decide_false, reduceCtorEq, cmpNil, cmpRes, boxCells, AV.known, AV.cells, Nat.zero_add, and_self, and_true, true_and, ite_self, forall_const, not_true_eq_false, not_false_eq_true, ge_iff_le]
    by_cases h1 : 1 ≤ n <;> by_cases h2 : n ≤ m <;> simpa [h1, h2] using h
  | false => simpa [r_hostlerref01ufield] using h
theorem abin_fl_neq {P : Program} {t : TypeId} (a b : Nat) (ha : a < 9007199254740992) (hb : b < 9007199254740992) : abin P .neq t (.float .f64 (fl a)) (.float .f64 (fl b)) = some (.bool !(decide (a = b))) := by
  simp only [abin, if_true, floatOp, order_fl a b ha hb, bne, ordeq]
theorem c_ref_whole (a m : Nat) (ha : a < 9007199254740992) (hm : m < 9007199254740992) (h : K (.tup [.int .i64 ((if a ≤ m then a else 0 : Nat) : Int), .bool (decide (a ≤ m))]) H) : r_hostlerref01uwhole [.float .f64 (fl a), .int .i64 m] H K := by
  have e0 : ∀ t : TypeId, abin PP .geq t (.float .f64 (fl a)) (.float .f64 0) = some (.bool (decide (0 ≤ a))) := fun t => by
    have := abin_fl_geq (P := PP) (t := t) a 0 ha (by omega)
    rwa [fl_zero] at this
  by_cases hle : a ≤ m
  · simpa [r_hostlerref01uwhole, e0, conv_fl, conv_lf a ha, abin_fl_leq a m ha hm, abin_fl_neq a a ha ha, hle] using h
  · simpa [r_hostlerref01uwhole, e0, conv_fl, conv_lf a ha, abin_fl_leq a m ha hm, abin_fl_neq a a ha ha, hle] using h
def roomOk (a b : Nat) : Bool := decide (a ≤ 100000) && decide (b ≤ 100000)
theorem c_ref_Parts (a b : Nat) (ha : a < 9007199254740992) (hb : b < 9007199254740992) (h : K (.tup [.int .i64 ((if roomOk a b = true then a else 0 : Nat) : Int), .int .i64 ((if roomOk a b = true then b else 0 : Nat) : Int), .bool (roomOk a b)]) H) : r_hostlerref01uParts [.cplx .f64 (fl a) (fl b)] H K := by
  simp only [r_hostlerref01uParts, areal, aimag, abin_i_add, abin_i_sub, abin_i_mul, abin_i_eql, abin_i_neq, abin_i_lss, abin_i_leq, abin_i_gtr, abin_i_geq, abin_s_eql, abin_s_neq, bnd_some, bnd_none, branch_bool, gwant_bool, gwant_nothing, aguard_some, wantE_some, pickV_bool, nilck_ptr, nilck_elem, aoff_ptr, aoff_elem, aun_not, aun_neg, lenStr_str, lenSl_nils, lenSl_sl, lenSl_osl, aextract_tup, ld1uelem, idxStr_str, amin2uint, amax2uint, rangeStr_str, sliceStr_from, sliceStr_to, List.getElem?_cons_zero, List.getElem?_cons_succ, Option.map_some, Option.bind_some, Int.toNat_natCast, Int.toNat_zero, Int.le_refl, Bool.not_true, Bool.not_false, Bool.not_not, Bool.false_eq_true, if_true, if_false, decide_eq_true_eq, beq_self_eq_true, bool_ft, bool_tf, decide_true, decide_false, reduceCtorEq, cmpNil, cmpRes, boxCells, AV.known, AV.cells, Nat.zero_add, and_self, and_true, true_and, ite_self, forall_const, not_true_eq_false, not_false_eq_true]
  refine c_ref_whole a 100000 ha (by omega) ?_
  simp only [abin_i_add, abin_i_sub, abin_i_mul, abin_i_eql, abin_i_neq, abin_i_lss, abin_i_leq, abin_i_gtr, abin_i_geq, abin_s_eql, abin_s_neq, bnd_some, bnd_none, branch_bool, gwant_bool, gwant_nothing, aguard_some, wantE_some, pickV_bool, nilck_ptr, nilck_elem, aoff_ptr, aoff_elem, aun_not, aun_neg, lenStr_str, lenSl_nils, lenSl_sl, lenSl_osl, aextract_tup, ld1uelem, idxStr_str, amin2uint, amax2uint, rangeStr_str, sliceStr_from, sliceStr_to, List.getElem?_cons_zero, List.getElem?_cons_succ, Option.map_some, Option.bind_some, Int.toNat_natCast, Int.toNat_zero, Int.le_refl, Bool.not_true, Bool.not_false, Bool.not_not, Bool.false_eq_true, if_true, if_false, decide_eq_true_eq, beq_self_eq_true, bool_ft, bool_tf, decide_true, decide_false, reduceCtorEq, cmpNil, cmpRes, boxCells, AV.known, AV.cells, Nat.zero_add, and_self, and_true, true_and, ite_self, forall_const, not_true_eq_false, not_false_eq_true]
  refine c_ref_whole b 100000 hb (by omega) ?_
  by_cases h1 : a ≤ 100000 <;> by_cases h2 : b ≤ 100000 <;> simpa [h1, h2, roomOk] using h
theorem c_ref_Need (a b : Nat) (ha : a < 9007199254740992) (hb : b < 9007199254740992) (h : K (.bool (needOk a b)) H) : r_hostlerref01uNeed [.cplx .f64 (fl a) (fl b)] H K := by
  simp only [r_hostlerref01uNeed]
  refine c_ref_Parts a b ha hb ?_
  have hk : needOk a b = (roomOk a b && decide (a ≤ 1000) && decide (b ≤ 1000) && decide (0 < a + b)) := by
    rw [Bool.eq_iff_iff]; simp only [needOk, roomOk, Bool.and_eq_true, decide_eq_true_eq, Bool.not_eq_true', Bool.and_eq_false_iff, beq_eq_false_iff_ne]; omega
  rw [hk] at h
  cases hr : roomOk a b with
  | false => rw [hr] at h; simpa using h
  | true =>
    rw [hr] at h
    have e1 : decide ((a : Int) ≤ 1000) = decide (a ≤ 1000) := by rw [Bool.eq_iff_iff]; simp; omega
    have e2 : decide ((b : Int) ≤ 1000) = decide (b ≤ 1000) := by rw [Bool.eq_iff_iff]; simp; omega
    simp only [abin_i_add, abin_i_sub, abin_i_mul, abin_i_eql, abin_i_neq, abin_i_lss, abin_i_leq, abin_i_gtr, abin_i_geq, abin_s_eql, abin_s_neq, bnd_some, bnd_none, branch_bool, gwant_bool, gwant_nothing, aguard_some, wantE_some, pickV_bool, nilck_ptr, nilck_elem, aoff_ptr, aoff_elem, aun_not, aun_neg, lenStr_str, lenSl_nils, lenSl_sl, lenSl_osl, aextract_tup, ld1uelem, idxStr_str, amin2uint, amax2uint, rangeStr_str, sliceStr_from, sliceStr_to, List.getElem?_cons_zero, List.getElem?_cons_succ, Option.map_some, Option.bind_some, Int.toNat_natCast, Int.toNat_zero, Int.le_refl, Bool.not_true, Bool.not_false, Bool.not_not, Bool.false_eq_true, if_true, if_false, decide_eq_true_eq, beq_self_eq_true, bool_ft, bool_tf, decide_true, decide_false, reduceCtorEq, cmpNil, cmpRes, boxCells, AV.known, AV.cells, Nat.zero_add, and_self, and_true, true_and, ite_self, forall_const, not_true_eq_false, not_false_eq_true, e1, e2]
    by_cases h1 : a ≤ 1000
    · by_cases h2 : b ≤ 1000
      · have e3 : IntKind.i64.wrap ((a : Int) + b) = ((a + b : Nat) : Int) := by rw [wrap_i64 (by omega) (by omega)]; omega
        have e4 : decide (((a + b : Nat) : Int) > 0) = decide (0 < a + b) := by rw [Bool.eq_iff_iff, decide_eq_true_eq, decide_eq_true_eq]; omega
        simp only [h1, h2, e3, e4, abin_i_add, abin_i_sub, abin_i_mul, abin_i_eql, abin_i_neq, abin_i_lss, abin_i_leq, abin_i_gtr, abin_i_geq, abin_s_eql, abin_s_neq, bnd_some, bnd_none, branch_bool, gwant_bool, gwant_nothing, aguard_some, wantE_some, pickV_bool, nilck_ptr, nilck_elem, aoff_ptr, aoff_elem, aun_not, aun_neg, lenStr_str, lenSl_nils, lenSl_sl, lenSl_osl, aextract_tup, ld1uelem, idxStr_str, amin2uint, amax2uint, rangeStr_str, sliceStr_from, sliceStr_to, List.getElem?_cons_zero, List.getElem?_cons_succ, Option.map_some, Option.bind_some, Int.toNat_natCast, Int.toNat_zero, Int.le_refl, Bool.not_true, Bool.not_false, Bool.not_not, Bool.false_eq_true, if_true, if_false, decide_eq_true_eq, beq_self_eq_true, bool_ft, bool_tf, decide_true, decide_false, reduceCtorEq, cmpNil, cmpRes, boxCells, AV.known, AV.cells, Nat.zero_add, and_self, and_true, true_and, ite_self, forall_const, not_true_eq_false, not_false_eq_true]
        simpa [h1, h2] using h
      · simpa [h1, h2] using h
    · simpa [h1] using h
end
end Go.Va

/-
  Contracts: the document's own answers: names of items, items.
-/
set_option linter.unusedVariables false
set_option linter.unusedSimpArgs false
set_option maxRecDepth 100000
namespace Go.Va
section
variable {K : AV → AH → Prop} {H : AH}
theorem idx_strs {g : Grow} {l : List Bs} {i : Nat} {x : Bs} (hx : l[i]? = some x) : idxA 1 (.sl g 1 (l.map .str)) (.int .i64 i) = some (.elem [.str x] 0) := by
  have h2 : (0 : Int) ≤ (i : Int) := by omega
  have hgi : (l.map AV.str)[i]? = some (.str x) := by simp [hx]
  simp only [idxA, h2, Int.toNat_natCast, hgi, if_true, AV.known, AV.cells]
  rfl
theorem c_All_in (l : List Bs) (hl : l.length ≤ 1000000000) {g : Grow} (i : Nat) (x : Bs) (hx : l[i]? = some x) {Y : List AV → AH → Prop} (hno : (∃ j y, j < i ∧ l[j]? = some y ∧ y = x) → K (.bool false) H)
    (hok : (∀ (j : Nat) y, j < i → l[j]? = some y → y ≠ x) → Y [.sl g 1 (l.map .str), .int .i64 l.length, .int .i64 ((i + 1 : Nat) : Int)] H) :
    ∀ (m k : Nat), i - k = m → k ≤ i → (∀ (j : Nat) y, j < k → l[j]? = some y → y ≠ x) → LoopP (r_hostlerref01uAll_p27036 K Y) [.sl g 1 (l.map .str), .int .i64 i, .int .i64 k, .int .i64 l.length, .int .i64 i] H
  | 0, k, hm, hki, hd => by
    refine .fold ?_
    have hi := (List.getElem?_eq_some_iff.1 hx).1
    obtain rfl : k = i := by omega
    have hlt : ¬ ((k : Int) < (k : Int)) := by omega
    simp only [r_hostlerref01uAll_p27036, abin_i_add, abin_i_sub, abin_i_mul, abin_i_eql, abin_i_neq, abin_i_lss, abin_i_leq, abin_i_gtr, abin_i_geq, abin_s_eql, abin_s_neq, bnd_some, bnd_none, branch_bool, gwant_bool, gwant_nothing, aguard_some, wantE_some, pickV_bool, nilck_ptr, nilck_elem, aoff_ptr, aoff_elem, aun_not, aun_neg, lenStr_str, lenSl_nils, lenSl_sl, lenSl_osl, aextract_tup, ld1uelem, idxStr_str, amin2uint, amax2uint, rangeStr_str, sliceStr_from, sliceStr_to, List.getElem?_cons_zero, List.getElem?_cons_succ, Option.map_some, Option.bind_some, Int.toNat_natCast, Int.toNat_zero, Int.le_refl, Bool.not_true, Bool.not_false, Bool.not_not, Bool.false_eq_true, if_true, if_false, decide_eq_true_eq, beq_self_eq_true, bool_ft, bool_tf, decide_true, decide_false, reduceCtorEq, cmpNil, cmpRes, boxCells, AV.known, AV.cells, Nat.zero_add, and_self, and_true, true_and, ite_self, forall_const, not_true_eq_false, not_false_eq_true, hlt, i_succ (show k < 9223372036854775807 by omega)]
    exact hok hd
  | m + 1, k, hm, hki, hd => by
    refine .fold ?_
    have hi := (List.getElem?_eq_some_iff.1 hx).1
    have hk : k < i := by omega
    have h1 : ((k : Int) < (i : Int)) := by omega
    have hy : l[k]? = some (l[k]'(by omega)) := List.getElem?_eq_getElem _
    generalize l[k]'(by omega) = y at hy
    simp only [r_hostlerref01uAll_p27036, abin_i_add, abin_i_sub, abin_i_mul, abin_i_eql, abin_i_neq, abin_i_lss, abin_i_leq, abin_i_gtr, abin_i_geq, abin_s_eql, abin_s_neq, bnd_some, bnd_none, branch_bool, gwant_bool, gwant_nothing, aguard_some, wantE_some, pickV_bool, nilck_ptr, nilck_elem, aoff_ptr, aoff_elem, aun_not, aun_neg, lenStr_str, lenSl_nils, lenSl_sl, lenSl_osl, aextract_tup, ld1uelem, idxStr_str, amin2uint, amax2uint, rangeStr_str, sliceStr_from, sliceStr_to, List.getElem?_cons_zero, List.getElem?_cons_succ, Option.map_some, Option.bind_some, Int.toNat_natCast, Int.toNat_zero, Int.le_refl, Bool.not_true, Bool.not_false, Bool.not_not, Bool.false_eq_true, if_true, if_false, decide_eq_true_eq, beq_self_eq_true, bool_ft, bool_tf, decide_true, decide_false, reduceCtorEq, cmpNil, cmpRes, boxCells, AV.known, AV.cells, Nat.zero_add, and_self, and_true, true_and, ite_self, forall_const, not_true_eq_false, not_false_eq_true, h1, idx_strs hy, idx_strs hx, i_succ (show k < 9223372036854775807 by omega)]
    cases he : (y == x) with
    | true => exact hno ⟨k, y, hk, hy, by simpa using he⟩
    | false =>
      have he' : y ≠ x := by simpa using he
      simp only [Bool.false_eq_true, if_false]
      refine c_All_in l hl i x hx hno hok m (k + 1) (by omega) (by omega) fun j z hj hz => ?_
      by_cases hjk : j = k
      · subst hjk; rw [hy] at hz; cases hz; exact he'
      · exact hd j z (by omega) hz
theorem nodup_snoc {l : List Bs} {x : Bs} : (l ++ [x]).Nodup ↔ l.Nodup ∧ x ∉ l := by
  rw [List.nodup_append]
  constructor
  · rintro ⟨h1, _, h3⟩; exact ⟨h1, fun hx => h3 x hx x (by simp) rfl⟩
  · rintro ⟨h1, h2⟩; exact ⟨h1, by simp, fun a ha b hb => by simp at hb; subst hb; rintro rfl; exact h2 ha⟩
theorem mem_take_iff {l : List Bs} {i : Nat} {x : Bs} : x ∈ l.take i ↔ ∃ (j : Nat), j < i ∧ l[j]? = some x := by
  rw [List.mem_iff_getElem?]
  constructor
  · rintro ⟨j, hj⟩
    rw [List.getElem?_take] at hj
    split at hj
    · rename_i h; exact ⟨j, h, hj⟩
    · cases hj
  · rintro ⟨j, hj, hx⟩; exact ⟨j, by rw [List.getElem?_take, if_pos hj]; exact hx⟩
theorem allNames_no {l : List Bs} {i : Nat} (h : allNames (l.take i) = false) : allNames l = false := by
  simp only [allNames, Bool.and_eq_false_iff, decide_eq_false_iff_not] at h ⊢
  rcases h with h | h
  · left
    rw [List.all_eq_false] at h ⊢
    obtain ⟨x, hx, hr⟩ := h
    exact ⟨x, List.mem_of_mem_take hx, hr⟩
  · right; intro hn; exact h (hn.sublist (List.take_sublist i l))
theorem c_rAll_loop (l : List Bs) (hl : l.length ≤ 1000000000) (hs : ∀ s ∈ l, s.length ≤ 1000000000) {g : Grow} (h : K (.bool (allNames l)) H) :
    ∀ (r : List Bs) (i : Nat), l.drop i = r → allNames (l.take i) = true → LoopP (r_hostlerref01uAll_p52 K) [.sl g 1 (l.map .str), .int .i64 l.length, .int .i64 i] H
  | [], i, hr, ha => by
    refine .fold ?_
    have hi : l.length ≤ i := by simpa using hr
    have hlt : ¬ ((i : Int) < (l.length : Int)) := by omega
    rw [List.take_of_length_le hi] at ha
    rw [ha] at h
    simp only [r_hostlerref01uAll_p52, abin_i_add, abin_i_sub, abin_i_mul, abin_i_eql, abin_i_neq, abin_i_lss, abin_i_leq, abin_i_gtr, abin_i_geq, abin_s_eql, abin_s_neq, bnd_some, bnd_none, branch_bool, gwant_bool, gwant_nothing, aguard_some, wantE_some, pickV_bool, nilck_ptr, nilck_elem, aoff_ptr, aoff_elem, aun_not, aun_neg, lenStr_str, lenSl_nils, lenSl_sl, lenSl_osl, aextract_tup, ld1uelem, idxStr_str, amin2uint, amax2uint, rangeStr_str, sliceStr_from, sliceStr_to, List.getElem?_cons_zero, List.getElem?_cons_succ, Option.map_some, Option.bind_some, Int.toNat_natCast, Int.toNat_zero, Int.le_refl, Bool.not_true, Bool.not_false, Bool.not_not, Bool.false_eq_true, if_true, if_false, decide_eq_true_eq, beq_self_eq_true, bool_ft, bool_tf, decide_true, decide_false, reduceCtorEq, cmpNil, cmpRes, boxCells, AV.known, AV.cells, Nat.zero_add, and_self, and_true, true_and, ite_self, forall_const, not_true_eq_false, not_false_eq_true, hlt]
    exact h
  | x :: r, i, hr, ha => by
    refine .fold ?_
    obtain ⟨hx, hlt, hr', ht⟩ := drop_at hr
    have h1 : ((i : Int) < (l.length : Int)) := by omega
    have hno : allNames (l.take (i + 1)) = false → K (.bool false) H := fun hf => by
      have := allNames_no hf; rw [this] at h; exact h
    simp only [r_hostlerref01uAll_p52, abin_i_add, abin_i_sub, abin_i_mul, abin_i_eql, abin_i_neq, abin_i_lss, abin_i_leq, abin_i_gtr, abin_i_geq, abin_s_eql, abin_s_neq, bnd_some, bnd_none, branch_bool, gwant_bool, gwant_nothing, aguard_some, wantE_some, pickV_bool, nilck_ptr, nilck_elem, aoff_ptr, aoff_elem, aun_not, aun_neg, lenStr_str, lenSl_nils, lenSl_sl, lenSl_osl, aextract_tup, ld1uelem, idxStr_str, amin2uint, amax2uint, rangeStr_str, sliceStr_from, sliceStr_to, List.getElem?_cons_zero, List.getElem?_cons_succ, Option.map_some, Option.bind_some, Int.toNat_natCast, Int.toNat_zero, Int.le_refl, Bool.not_true, Bool.not_false, Bool.not_not, Bool.false_eq_true, if_true, if_false, decide_eq_true_eq, beq_self_eq_true, bool_ft, bool_tf, decide_true, decide_false, reduceCtorEq, cmpNil, cmpRes, boxCells, AV.known, AV.cells, Nat.zero_add, and_self, and_true, true_and, ite_self, forall_const, not_true_eq_false, not_false_eq_true, h1, idx_strs hx]
    refine c_ref_Right x (hs x (List.mem_of_getElem? hx)) ?_
    cases hrx : rightN x with
    | false =>
      simp only [abin_i_add, abin_i_sub, abin_i_mul, abin_i_eql, abin_i_neq, abin_i_lss, abin_i_leq, abin_i_gtr, abin_i_geq, abin_s_eql, abin_s_neq, bnd_some, bnd_none, branch_bool, gwant_bool, gwant_nothing, aguard_some, wantE_some, pickV_bool, nilck_ptr, nilck_elem, aoff_ptr, aoff_elem, aun_not, aun_neg, lenStr_str, lenSl_nils, lenSl_sl, lenSl_osl, aextract_tup, ld1uelem, idxStr_str, amin2uint, amax2uint, rangeStr_str, sliceStr_from, sliceStr_to, List.getElem?_cons_zero, List.getElem?_cons_succ, Option.map_some, Option.bind_some, Int.toNat_natCast, Int.toNat_zero, Int.le_refl, Bool.not_true, Bool.not_false, Bool.not_not, Bool.false_eq_true, if_true, if_false, decide_eq_true_eq, beq_self_eq_true, bool_ft, bool_tf, decide_true, decide_false, reduceCtorEq, cmpNil, cmpRes, boxCells, AV.known, AV.cells, Nat.zero_add, and_self, and_true, true_and, ite_self, forall_const, not_true_eq_false, not_false_eq_true]
      exact hno (by rw [ht]; simp [allNames, hrx])
    | true =>
      simp only [abin_i_add, abin_i_sub, abin_i_mul, abin_i_eql, abin_i_neq, abin_i_lss, abin_i_leq, abin_i_gtr, abin_i_geq, abin_s_eql, abin_s_neq, bnd_some, bnd_none, branch_bool, gwant_bool, gwant_nothing, aguard_some, wantE_some, pickV_bool, nilck_ptr, nilck_elem, aoff_ptr, aoff_elem, aun_not, aun_neg, lenStr_str, lenSl_nils, lenSl_sl, lenSl_osl, aextract_tup, ld1uelem, idxStr_str, amin2uint, amax2uint, rangeStr_str, sliceStr_from, sliceStr_to, List.getElem?_cons_zero, List.getElem?_cons_succ, Option.map_some, Option.bind_some, Int.toNat_natCast, Int.toNat_zero, Int.le_refl, Bool.not_true, Bool.not_false, Bool.not_not, Bool.false_eq_true, if_true, if_false, decide_eq_true_eq, beq_self_eq_true, bool_ft, bool_tf, decide_true, decide_false, reduceCtorEq, cmpNil, cmpRes, boxCells, AV.known, AV.cells, Nat.zero_add, and_self, and_true, true_and, ite_self, forall_const, not_true_eq_false, not_false_eq_true]
      have hin : (∃ j y, j < i ∧ l[j]? = some y ∧ y = x) → allNames (l.take (i + 1)) = false := fun ⟨j, y, hj, hy, he⟩ => by
        have : x ∈ l.take i := mem_take_iff.2 ⟨j, hj, he ▸ hy⟩
        rw [ht]; simp only [allNames, Bool.and_eq_false_iff, decide_eq_false_iff_not, nodup_snoc]; right; exact fun hh => hh.2 this
      refine c_All_in l hl i x hx (fun he => hno (hin he)) (fun hd => ?_) i 0 (by omega) (by omega) (fun j y hj => by omega)
      · refine c_rAll_loop l hl hs h r (i + 1) hr' ?_
        simp only [allNames, Bool.and_eq_true, decide_eq_true_eq] at ha
        rw [ht]; simp only [allNames, Bool.and_eq_true, decide_eq_true_eq, nodup_snoc, List.all_append, ha.1, List.all_cons, hrx, List.all_nil, Bool.and_self, true_and]
        exact ⟨ha.2, fun hm => by obtain ⟨j, hj, hy⟩ := mem_take_iff.1 hm; exact hd j x hj hy rfl⟩
theorem c_ref_All (l : List Bs) (hl : l.length ≤ 1000000000) (hs : ∀ s ∈ l, s.length ≤ 1000000000) {v : AV} (hv : IsSl 1 .str v l) (h : K (.bool (allNames l)) H) : r_hostlerref01uAll [v] H K := by
  rcases hv with ⟨rfl, rfl⟩ | ⟨g, rfl⟩
  · simp only [r_hostlerref01uAll, abin_i_add, abin_i_sub, abin_i_mul, abin_i_eql, abin_i_neq, abin_i_lss, abin_i_leq, abin_i_gtr, abin_i_geq, abin_s_eql, abin_s_neq, bnd_some, bnd_none, branch_bool, gwant_bool, gwant_nothing, aguard_some, wantE_some, pickV_bool, nilck_ptr, nilck_elem, aoff_ptr, aoff_elem, aun_not, aun_neg, lenStr_str, lenSl_nils, lenSl_sl, lenSl_osl, aextract_tup, ld1uelem, idxStr_str, amin2uint, amax2uint, rangeStr_str, sliceStr_from, sliceStr_to, List.getElem?_cons_zero, List.getElem?_cons_succ, Option.map_some, Option.bind_some, Int.toNat_natCast, Int.toNat_zero, Int.le_refl, Bool.not_true, Bool.not_false, Bool.not_not, Bool.false_eq_true, if_true, if_false, decide_eq_true_eq, beq_self_eq_true, bool_ft, bool_tf, decide_true, decide_false, reduceCtorEq, cmpNil, cmpRes, boxCells, AV.known, AV.cells, Nat.zero_add, and_self, and_true, true_and, ite_self, forall_const, not_true_eq_false, not_false_eq_true]
    refine .fold ?_
    simp only [r_hostlerref01uAll_p52, abin_i_add, abin_i_sub, abin_i_mul, abin_i_eql, abin_i_neq, abin_i_lss, abin_i_leq, abin_i_gtr, abin_i_geq, abin_s_eql, abin_s_neq, bnd_some, bnd_none, branch_bool, gwant_bool, gwant_nothing, aguard_some, wantE_some, pickV_bool, nilck_ptr, nilck_elem, aoff_ptr, aoff_elem, aun_not, aun_neg, lenStr_str, lenSl_nils, lenSl_sl, lenSl_osl, aextract_tup, ld1uelem, idxStr_str, amin2uint, amax2uint, rangeStr_str, sliceStr_from, sliceStr_to, List.getElem?_cons_zero, List.getElem?_cons_succ, Option.map_some, Option.bind_some, Int.toNat_natCast, Int.toNat_zero, Int.le_refl, Bool.not_true, Bool.not_false, Bool.not_not, Bool.false_eq_true, if_true, if_false, decide_eq_true_eq, beq_self_eq_true, bool_ft, bool_tf, decide_true, decide_false, reduceCtorEq, cmpNil, cmpRes, boxCells, AV.known, AV.cells, Nat.zero_add, and_self, and_true, true_and, ite_self, forall_const, not_true_eq_false, not_false_eq_true]
    simpa [allNames] using h
  · simp only [r_hostlerref01uAll, abin_i_add, abin_i_sub, abin_i_mul, abin_i_eql, abin_i_neq, abin_i_lss, abin_i_leq, abin_i_gtr, abin_i_geq, abin_s_eql, abin_s_neq, bnd_some, bnd_none, branch_bool, gwant_bool, gwant_nothing, aguard_some, wantE_some, pickV_bool, nilck_ptr, nilck_elem, aoff_ptr, aoff_elem, aun_not, aun_neg, lenStr_str, lenSl_nils, lenSl_sl, lenSl_osl, aextract_tup, ld1uelem, idxStr_str, amin2uint, amax2uint, rangeStr_str, sliceStr_from, sliceStr_to, List.getElem?_cons_zero, List.getElem?_cons_succ, Option.map_some, Option.bind_some, Int.toNat_natCast, Int.toNat_zero, Int.le_refl, Bool.not_true, Bool.not_false, Bool.not_not, Bool.false_eq_true, if_true, if_false, decide_eq_true_eq, beq_self_eq_true, bool_ft, bool_tf, decide_true, decide_false, reduceCtorEq, cmpNil, cmpRes, boxCells, AV.known, AV.cells, Nat.zero_add, and_self, and_true, true_and, ite_self, forall_const, not_true_eq_false, not_false_eq_true, List.length_map]
    exact c_rAll_loop l hl hs h l 0 rfl (by simp [allNames])
-- items
def itemsR (kind : Int) (l : List Item) : Bool :=
  l.all (fun i => if kind = 5 then i.a == 0 && i.b == 0 else needOk i.a i.b) &&
  (if kind = 1 then decide (1 ≤ l.length) && decide (l.length ≤ 4) && allNames (l.map (·.t)) else if kind = 14 then decide (l.length = 1) && allNames (l.map (·.t)) else if kind = 5 then decide (l.length ≤ 4) && allNames (l.map (·.t)) else l.isEmpty)
theorem itemsR_eq (kind : Int) (l : List Item) : itemsR kind l = (if (fieldsOf kind).contains 73 then listOk kind l else l.isEmpty) ∨ fieldsOf kind = [63] := by
  by_cases h5 : kind = 5
  · subst h5; left
    show itemsR 5 l = listOk 5 l
    simp only [itemsR, listOk, if_true]
    simp only [show ((5 : Int) = 1) = False from by decide, show ((5 : Int) = 14) = False from by decide, if_false]
    rw [Bool.eq_iff_iff]
    simp only [Bool.and_eq_true, decide_eq_true_eq]
    constructor
    · rintro ⟨h1, h2, h3⟩; exact ⟨⟨h3, h2⟩, h1⟩
    · rintro ⟨⟨h3, h2⟩, h1⟩; exact ⟨h1, h2, h3⟩
  · by_cases h1 : kind = 1
    · subst h1; left
      show itemsR 1 l = listOk 1 l
      simp only [itemsR, listOk, if_true, h5, if_false]
      rw [Bool.eq_iff_iff]
      simp only [Bool.and_eq_true, decide_eq_true_eq, Bool.or_eq_true, true_and, List.all_eq_true]
      constructor
      · rintro ⟨a, ⟨b, c⟩, d⟩; exact ⟨⟨d, c⟩, a, .inr (by omega)⟩
      · rintro ⟨⟨d, c⟩, a, b⟩; exact ⟨a, ⟨by omega, c⟩, d⟩
    · by_cases h14 : kind = 14
      · subst h14; left
        show itemsR 14 l = listOk 14 l
        simp only [itemsR, listOk, if_true, h5, h1, if_false, decide_false, Bool.false_and, Bool.or_false]
        rw [Bool.eq_iff_iff]
        simp only [Bool.and_eq_true, decide_eq_true_eq, List.all_eq_true]
        constructor
        · rintro ⟨a, b, c⟩; exact ⟨⟨c, by omega⟩, a, b⟩
        · rintro ⟨⟨c, d⟩, a, b⟩; exact ⟨a, b, c⟩
      · left
        have hf : (fieldsOf kind).contains 73 = false := by
          unfold fieldsOf
          simp only [h1, h5, h14, if_false]
          repeat' split
          all_goals rfl
        rw [hf]
        simp only [itemsR, h1, h5, h14, if_false, Bool.false_eq_true]
        cases l with
        | nil => simp
        | cons a l => simp
theorem cz_neq {P : Program} {t : TypeId} (i : Item) (hi : ItemSmall i) : abin P .neq t (.cplx .f64 (fl i.a) (fl i.b)) (.cplx .f64 0 0) = some (.bool !(i.a == 0 && i.b == 0)) := cplx_zero i.a i.b hi.1 hi.2.1
theorem c_Items_loop (kind : Int) (l : List Item) (hs : ItemsSmall l) {g : Grow} {v0 : AV} {H0 : AH} (hno : itemsR kind l = false → ∀ H', Ext H0 H' → K (.bool false) H')
    (h : ∀ (v : AV) H', Ext H0 H' → IsSl 1 .str v (l.map (·.t)) → l.all (fun i => if kind = 5 then i.a == 0 && i.b == 0 else needOk i.a i.b) = true → LoopP (r_hostlerref01uItems_p116 K) [.int .i64 kind, v0, v, .sl g 2 (l.map encItem), .int .i64 l.length, .int .i64 l.length] H') :
    ∀ (r : List Item) (i : Nat) (v : AV) (H : AH), l.drop i = r → IsGrow 1 .str H0 v ((l.take i).map (·.t)) H → Ext H0 H → i ≤ l.length → (l.take i).all (fun i => if kind = 5 then i.a == 0 && i.b == 0 else needOk i.a i.b) = true →
    LoopP (r_hostlerref01uItems_p116 K) [.int .i64 kind, v0, v, .sl g 2 (l.map encItem), .int .i64 l.length, .int .i64 i] H
  | [], i, v, H, hr, hg, hx, hil, ha => by
    have hi : l.length ≤ i := by simpa using hr
    have : i = l.length := by omega
    subst this
    rw [List.take_of_length_le (Nat.le_refl _)] at hg ha
    exact h v H hx hg.isSl ha
  | w :: r, i, v, H, hr, hg, hx, hil, ha => by
    refine .fold ?_
    obtain ⟨hw, hlt, hr', ht⟩ := drop_at hr
    have h1 : ((i : Int) < (l.length : Int)) := by omega
    have h2 : (0 : Int) ≤ (i : Int) := by omega
    have hll := hs.1
    have hgi : (l.map encItem)[i]? = some (encItem w) := by simp [hw]
    let cs : List AV := [.str w.t, .cplx .f64 (fl w.a) (fl w.b)]
    have hie : idxA 2 (.sl g 2 (l.map encItem)) (.int .i64 i) = some (.elem cs 0) := by
      simp only [idxA, h2, Int.toNat_natCast, hgi, if_true]; rfl
    have hld : ldN 2 (.elem cs 0) H = some (.agg cs) := rfl
    have hst : ast 2 (.ptr H.next 0) (.agg cs) (H.add (.cells [.str [], .cplx .f64 0 0])) = some (H.add (.cells cs)) := by
      have := ast_all (cs := cs) (get_add_self H (.cells [.str [], .cplx .f64 0 0])) rfl rfl
      rw [add_put] at this; exact this
    have hc0 : cs[0]? = some (.str w.t) := rfl
    have hc1 : cs[1]? = some (.cplx .f64 (fl w.a) (fl w.b)) := rfl
    clear_value cs
    have hwm := hs.2 w (List.mem_of_getElem? hw)
    have htm : (l.take (i + 1)).map (·.t) = (l.take i).map (·.t) ++ [w.t] := by rw [ht, List.map_append]; rfl
    have hno' : (if kind = 5 then w.a == 0 && w.b == 0 else needOk w.a w.b) = false → ∀ H', Ext H0 H' → K (.bool false) H' := fun hf => hno (by
      have : l.all (fun i => if kind = 5 then i.a == 0 && i.b == 0 else needOk i.a i.b) = false := by
        rw [List.all_eq_false]; exact ⟨w, List.mem_of_getElem? hw, by simp only [hf]; simp⟩
      simp only [itemsR, this, Bool.false_and])
    simp only [r_hostlerref01uItems_p116, abin_i_add, abin_i_sub, abin_i_mul, abin_i_eql, abin_i_neq, abin_i_lss, abin_i_leq, abin_i_gtr, abin_i_geq, abin_s_eql, abin_s_neq, bnd_some, bnd_none, branch_bool, gwant_bool, gwant_nothing, aguard_some, wantE_some, pickV_bool, nilck_ptr, nilck_elem, aoff_ptr, aoff_elem, aun_not, aun_neg, lenStr_str, lenSl_nils, lenSl_sl, lenSl_osl, aextract_tup, ld1uelem, idxStr_str, amin2uint, amax2uint, rangeStr_str, sliceStr_from, sliceStr_to, List.getElem?_cons_zero, List.getElem?_cons_succ, Option.map_some, Option.bind_some, Int.toNat_natCast, Int.toNat_zero, Int.le_refl, Bool.not_true, Bool.not_false, Bool.not_not, Bool.false_eq_true, if_true, if_false, decide_eq_true_eq, beq_self_eq_true, bool_ft, bool_tf, decide_true, decide_false, reduceCtorEq, cmpNil, cmpRes, boxCells, AV.known, AV.cells, Nat.zero_add, and_self, and_true, true_and, ite_self, forall_const, not_true_eq_false, not_false_eq_true, h1, hie, hld, hst, Nat.add_zero, ld1uptr (get_add_self _ _), hc0, buildSl_one 1 (.str w.t) rfl rfl]
    have hgrow : IsGrow 1 AV.str H0 v ((l.take i).map (·.t)) (H.add (.cells cs)) := hg.mono (by simp) (fun _ _ => rfl)
    have htl : ((l.take i).map (·.t)).length + [w.t].length ≤ 1000000001 := by simp; omega
    refine hgrow.app (xs := [w.t]) (by_ := 16) (hx.add _) (.inr ⟨_, rfl⟩) (by omega) (by omega) rfl fun v' H' hg' hx' hgt _ => ?_
    have hget : H'.get H.next = some (.cells cs) := by rw [hgt]; exact get_add_self _ _
    by_cases h5 : kind = 5
    · subst h5
      simp only [abin_i_add, abin_i_sub, abin_i_mul, abin_i_eql, abin_i_neq, abin_i_lss, abin_i_leq, abin_i_gtr, abin_i_geq, abin_s_eql, abin_s_neq, bnd_some, bnd_none, branch_bool, gwant_bool, gwant_nothing, aguard_some, wantE_some, pickV_bool, nilck_ptr, nilck_elem, aoff_ptr, aoff_elem, aun_not, aun_neg, lenStr_str, lenSl_nils, lenSl_sl, lenSl_osl, aextract_tup, ld1uelem, idxStr_str, amin2uint, amax2uint, rangeStr_str, sliceStr_from, sliceStr_to, List.getElem?_cons_zero, List.getElem?_cons_succ, Option.map_some, Option.bind_some, Int.toNat_natCast, Int.toNat_zero, Int.le_refl, Bool.not_true, Bool.not_false, Bool.not_not, Bool.false_eq_true, if_true, if_false, decide_eq_true_eq, beq_self_eq_true, bool_ft, bool_tf, decide_true, decide_false, reduceCtorEq, cmpNil, cmpRes, boxCells, AV.known, AV.cells, Nat.zero_add, and_self, and_true, true_and, ite_self, forall_const, not_true_eq_false, not_false_eq_true, ld1uptr hget, hc1, cz_neq w hwm]
      simp only [if_true] at hno'
      cases hz : (w.a == 0 && w.b == 0) with
      | false => simp only [abin_i_add, abin_i_sub, abin_i_mul, abin_i_eql, abin_i_neq, abin_i_lss, abin_i_leq, abin_i_gtr, abin_i_geq, abin_s_eql, abin_s_neq, bnd_some, bnd_none, branch_bool, gwant_bool, gwant_nothing, aguard_some, wantE_some, pickV_bool, nilck_ptr, nilck_elem, aoff_ptr, aoff_elem, aun_not, aun_neg, lenStr_str, lenSl_nils, lenSl_sl, lenSl_osl, aextract_tup, ld1uelem, idxStr_str, amin2uint, amax2uint, rangeStr_str, sliceStr_from, sliceStr_to, List.getElem?_cons_zero, List.getElem?_cons_succ, Option.map_some, Option.bind_some, Int.toNat_natCast, Int.toNat_zero, Int.le_refl, Bool.not_true, Bool.not_false, Bool.not_not, Bool.false_eq_true, if_true, if_false, decide_eq_true_eq, beq_self_eq_true, bool_ft, bool_tf, decide_true, decide_false, reduceCtorEq, cmpNil, cmpRes, boxCells, AV.known, AV.cells, Nat.zero_add, and_self, and_true, true_and, ite_self, forall_const, not_true_eq_false, not_false_eq_true]; exact hno' hz H' hx'
      | true =>
        simp only [abin_i_add, abin_i_sub, abin_i_mul, abin_i_eql, abin_i_neq, abin_i_lss, abin_i_leq, abin_i_gtr, abin_i_geq, abin_s_eql, abin_s_neq, bnd_some, bnd_none, branch_bool, gwant_bool, gwant_nothing, aguard_some, wantE_some, pickV_bool, nilck_ptr, nilck_elem, aoff_ptr, aoff_elem, aun_not, aun_neg, lenStr_str, lenSl_nils, lenSl_sl, lenSl_osl, aextract_tup, ld1uelem, idxStr_str, amin2uint, amax2uint, rangeStr_str, sliceStr_from, sliceStr_to, List.getElem?_cons_zero, List.getElem?_cons_succ, Option.map_some, Option.bind_some, Int.toNat_natCast, Int.toNat_zero, Int.le_refl, Bool.not_true, Bool.not_false, Bool.not_not, Bool.false_eq_true, if_true, if_false, decide_eq_true_eq, beq_self_eq_true, bool_ft, bool_tf, decide_true, decide_false, reduceCtorEq, cmpNil, cmpRes, boxCells, AV.known, AV.cells, Nat.zero_add, and_self, and_true, true_and, ite_self, forall_const, not_true_eq_false, not_false_eq_true, i_succ (show i < 9223372036854775807 by omega), show ((5 : Int) != 5) = false from rfl]
        exact c_Items_loop 5 l hs hno h r (i + 1) v' H' hr' (by rw [htm]; exact hg') hx' (by omega) (by rw [ht, List.all_append, ha]; simp only [List.all_cons, if_true, hz, List.all_nil]; rfl)
    · have e5 : (kind == 5) = false := by simpa using h5
      have e5' : (kind != 5) = true := by simpa using h5
      simp only [h5, if_false] at hno'
      simp only [abin_i_add, abin_i_sub, abin_i_mul, abin_i_eql, abin_i_neq, abin_i_lss, abin_i_leq, abin_i_gtr, abin_i_geq, abin_s_eql, abin_s_neq, bnd_some, bnd_none, branch_bool, gwant_bool, gwant_nothing, aguard_some, wantE_some, pickV_bool, nilck_ptr, nilck_elem, aoff_ptr, aoff_elem, aun_not, aun_neg, lenStr_str, lenSl_nils, lenSl_sl, lenSl_osl, aextract_tup, ld1uelem, idxStr_str, amin2uint, amax2uint, rangeStr_str, sliceStr_from, sliceStr_to, List.getElem?_cons_zero, List.getElem?_cons_succ, Option.map_some, Option.bind_some, Int.toNat_natCast, Int.toNat_zero, Int.le_refl, Bool.not_true, Bool.not_false, Bool.not_not, Bool.false_eq_true, if_true, if_false, decide_eq_true_eq, beq_self_eq_true, bool_ft, bool_tf, decide_true, decide_false, reduceCtorEq, cmpNil, cmpRes, boxCells, AV.known, AV.cells, Nat.zero_add, and_self, and_true, true_and, ite_self, forall_const, not_true_eq_false, not_false_eq_true, e5, e5', ld1uptr hget, hc1]
      refine c_ref_Need w.a w.b hwm.1 hwm.2.1 ?_
      cases hz : needOk w.a w.b with
      | false => simp only [abin_i_add, abin_i_sub, abin_i_mul, abin_i_eql, abin_i_neq, abin_i_lss, abin_i_leq, abin_i_gtr, abin_i_geq, abin_s_eql, abin_s_neq, bnd_some, bnd_none, branch_bool, gwant_bool, gwant_nothing, aguard_some, wantE_some, pickV_bool, nilck_ptr, nilck_elem, aoff_ptr, aoff_elem, aun_not, aun_neg, lenStr_str, lenSl_nils, lenSl_sl, lenSl_osl, aextract_tup, ld1uelem, idxStr_str, amin2uint, amax2uint, rangeStr_str, sliceStr_from, sliceStr_to, List.getElem?_cons_zero, List.getElem?_cons_succ, Option.map_some, Option.bind_some, Int.toNat_natCast, Int.toNat_zero, Int.le_refl, Bool.not_true, Bool.not_false, Bool.not_not, Bool.false_eq_true, if_true, if_false, decide_eq_true_eq, beq_self_eq_true, bool_ft, bool_tf, decide_true, decide_false, reduceCtorEq, cmpNil, cmpRes, boxCells, AV.known, AV.cells, Nat.zero_add, and_self, and_true, true_and, ite_self, forall_const, not_true_eq_false, not_false_eq_true]; exact hno' hz H' hx'
      | true =>
        simp only [abin_i_add, abin_i_sub, abin_i_mul, abin_i_eql, abin_i_neq, abin_i_lss, abin_i_leq, abin_i_gtr, abin_i_geq, abin_s_eql, abin_s_neq, bnd_some, bnd_none, branch_bool, gwant_bool, gwant_nothing, aguard_some, wantE_some, pickV_bool, nilck_ptr, nilck_elem, aoff_ptr, aoff_elem, aun_not, aun_neg, lenStr_str, lenSl_nils, lenSl_sl, lenSl_osl, aextract_tup, ld1uelem, idxStr_str, amin2uint, amax2uint, rangeStr_str, sliceStr_from, sliceStr_to, List.getElem?_cons_zero, List.getElem?_cons_succ, Option.map_some, Option.bind_some, Int.toNat_natCast, Int.toNat_zero, Int.le_refl, Bool.not_true, Bool.not_false, Bool.not_not, Bool.false_eq_true, if_true, if_false, decide_eq_true_eq, beq_self_eq_true, bool_ft, bool_tf, decide_true, decide_false, reduceCtorEq, cmpNil, cmpRes, boxCells, AV.known, AV.cells, Nat.zero_add, and_self, and_true, true_and, ite_self, forall_const, not_true_eq_false, not_false_eq_true, i_succ (show i < 9223372036854775807 by omega)]
        exact c_Items_loop kind l hs hno h r (i + 1) v' H' hr' (by rw [htm]; exact hg') hx' (by omega) (by rw [ht, List.all_append, ha]; simp only [List.all_cons, h5, if_false, hz, List.all_nil]; rfl)
theorem c_ref_Items (kind : Int) (l : List Item) (hs : ItemsSmall l) {v : AV} (hv : IsItems v l) (h : ∀ H', Ext H H' → K (.bool (itemsR kind l)) H') : r_hostlerref01uItems [.int .i64 kind, v] H K := by
  have fin : ∀ (v' v'' : AV) (H' : AH), Ext H H' → IsSl 1 .str v' (l.map (·.t)) → lenSl v = some (.int .i64 l.length) → l.all (fun i => if kind = 5 then i.a == 0 && i.b == 0 else needOk i.a i.b) = true →
      LoopP (r_hostlerref01uItems_p116 K) [.int .i64 kind, v, v', v'', .int .i64 l.length, .int .i64 l.length] H' := by
    intro v' v'' H' hx' hv' hlen hall
    refine .fold ?_
    have hlt : ¬ ((l.length : Int) < (l.length : Int)) := by omega
    have hk := h H' hx'
    simp only [itemsR, hall, Bool.true_and] at hk
    have hnm := names_small hs
    have hll := hs.1
    have hml : (l.map (·.t)).length ≤ 1000000000 := by simpa using hll
    simp only [r_hostlerref01uItems_p116, abin_i_add, abin_i_sub, abin_i_mul, abin_i_eql, abin_i_neq, abin_i_lss, abin_i_leq, abin_i_gtr, abin_i_geq, abin_s_eql, abin_s_neq, bnd_some, bnd_none, branch_bool, gwant_bool, gwant_nothing, aguard_some, wantE_some, pickV_bool, nilck_ptr, nilck_elem, aoff_ptr, aoff_elem, aun_not, aun_neg, lenStr_str, lenSl_nils, lenSl_sl, lenSl_osl, aextract_tup, ld1uelem, idxStr_str, amin2uint, amax2uint, rangeStr_str, sliceStr_from, sliceStr_to, List.getElem?_cons_zero, List.getElem?_cons_succ, Option.map_some, Option.bind_some, Int.toNat_natCast, Int.toNat_zero, Int.le_refl, Bool.not_true, Bool.not_false, Bool.not_not, Bool.false_eq_true, if_true, if_false, decide_eq_true_eq, beq_self_eq_true, bool_ft, bool_tf, decide_true, decide_false, reduceCtorEq, cmpNil, cmpRes, boxCells, AV.known, AV.cells, Nat.zero_add, and_self, and_true, true_and, ite_self, forall_const, not_true_eq_false, not_false_eq_true, hlt, hlen]
    by_cases h1 : kind = 1
    · subst h1
      simp only [if_true] at hk
      by_cases hb1 : (1 : Int) ≤ l.length
      · have hb1' : 1 ≤ l.length := by omega
        by_cases hb4 : (l.length : Int) ≤ 4
        · have hb4' : l.length ≤ 4 := by omega
          simp only [abin_i_add, abin_i_sub, abin_i_mul, abin_i_eql, abin_i_neq, abin_i_lss, abin_i_leq, abin_i_gtr, abin_i_geq, abin_s_eql, abin_s_neq, bnd_some, bnd_none, branch_bool, gwant_bool, gwant_nothing, aguard_some, wantE_some, pickV_bool, nilck_ptr, nilck_elem, aoff_ptr, aoff_elem, aun_not, aun_neg, lenStr_str, lenSl_nils, lenSl_sl, lenSl_osl, aextract_tup, ld1uelem, idxStr_str, amin2uint, amax2uint, rangeStr_str, sliceStr_from, sliceStr_to, List.getElem?_cons_zero, List.getElem?_cons_succ, Option.map_some, Option.bind_some, Int.toNat_natCast, Int.toNat_zero, Int.le_refl, Bool.not_true, Bool.not_false, Bool.not_not, Bool.false_eq_true, if_true, if_false, decide_eq_true_eq, beq_self_eq_true, bool_ft, bool_tf, decide_true, decide_false, reduceCtorEq, cmpNil, cmpRes, boxCells, AV.known, AV.cells, Nat.zero_add, and_self, and_true, true_and, ite_self, forall_const, not_true_eq_false, not_false_eq_true, ge_iff_le, hb1, hb4]
          refine c_ref_All _ hml hnm hv' ?_
          simpa [hb1', hb4'] using hk
        · have hb4' : ¬ l.length ≤ 4 := by omega
          simpa [hb1, hb4, hb4'] using hk
      · have hb1' : ¬ 1 ≤ l.length := by omega
        have e : l = [] := by cases l with
          | nil => rfl
          | cons a l => simp at hb1'
        subst e
        simpa using hk
    · have n1 : (kind == 1) = false := by simpa using h1
      simp only [h1, if_false] at hk
      by_cases h14 : kind = 14
      · subst h14
        have e1 : ((l.length : Int) == 1) = decide (l.length = 1) := by rw [Bool.eq_iff_iff, decide_eq_true_eq, beq_iff_eq]; omega
        simp only [if_true] at hk
        simp only [abin_i_add, abin_i_sub, abin_i_mul, abin_i_eql, abin_i_neq, abin_i_lss, abin_i_leq, abin_i_gtr, abin_i_geq, abin_s_eql, abin_s_neq, bnd_some, bnd_none, branch_bool, gwant_bool, gwant_nothing, aguard_some, wantE_some, pickV_bool, nilck_ptr, nilck_elem, aoff_ptr, aoff_elem, aun_not, aun_neg, lenStr_str, lenSl_nils, lenSl_sl, lenSl_osl, aextract_tup, ld1uelem, idxStr_str, amin2uint, amax2uint, rangeStr_str, sliceStr_from, sliceStr_to, List.getElem?_cons_zero, List.getElem?_cons_succ, Option.map_some, Option.bind_some, Int.toNat_natCast, Int.toNat_zero, Int.le_refl, Bool.not_true, Bool.not_false, Bool.not_not, Bool.false_eq_true, if_true, if_false, decide_eq_true_eq, beq_self_eq_true, bool_ft, bool_tf, decide_true, decide_false, reduceCtorEq, cmpNil, cmpRes, boxCells, AV.known, AV.cells, Nat.zero_add, and_self, and_true, true_and, ite_self, forall_const, not_true_eq_false, not_false_eq_true, e1, n1]
        cases hb1 : decide (l.length = 1) with
        | false => rw [hb1] at hk; simp only [decide_eq_false_iff_not] at hb1; simpa [hb1] using hk
        | true =>
          rw [hb1] at hk
          simp only [decide_eq_true_eq] at hb1
          simp only [abin_i_add, abin_i_sub, abin_i_mul, abin_i_eql, abin_i_neq, abin_i_lss, abin_i_leq, abin_i_gtr, abin_i_geq, abin_s_eql, abin_s_neq, bnd_some, bnd_none, branch_bool, gwant_bool, gwant_nothing, aguard_some, wantE_some, pickV_bool, nilck_ptr, nilck_elem, aoff_ptr, aoff_elem, aun_not, aun_neg, lenStr_str, lenSl_nils, lenSl_sl, lenSl_osl, aextract_tup, ld1uelem, idxStr_str, amin2uint, amax2uint, rangeStr_str, sliceStr_from, sliceStr_to, List.getElem?_cons_zero, List.getElem?_cons_succ, Option.map_some, Option.bind_some, Int.toNat_natCast, Int.toNat_zero, Int.le_refl, Bool.not_true, Bool.not_false, Bool.not_not, Bool.false_eq_true, if_true, if_false, decide_eq_true_eq, beq_self_eq_true, bool_ft, bool_tf, decide_true, decide_false, reduceCtorEq, cmpNil, cmpRes, boxCells, AV.known, AV.cells, Nat.zero_add, and_self, and_true, true_and, ite_self, forall_const, not_true_eq_false, not_false_eq_true, hb1]
          refine c_ref_All _ hml hnm hv' ?_
          simpa using hk
      · have n14 : (kind == 14) = false := by simpa using h14
        simp only [h14, if_false] at hk
        by_cases h5 : kind = 5
        · subst h5
          simp only [if_true] at hk
          by_cases hb4 : (l.length : Int) ≤ 4
          · have hb4' : l.length ≤ 4 := by omega
            simp only [abin_i_add, abin_i_sub, abin_i_mul, abin_i_eql, abin_i_neq, abin_i_lss, abin_i_leq, abin_i_gtr, abin_i_geq, abin_s_eql, abin_s_neq, bnd_some, bnd_none, branch_bool, gwant_bool, gwant_nothing, aguard_some, wantE_some, pickV_bool, nilck_ptr, nilck_elem, aoff_ptr, aoff_elem, aun_not, aun_neg, lenStr_str, lenSl_nils, lenSl_sl, lenSl_osl, aextract_tup, ld1uelem, idxStr_str, amin2uint, amax2uint, rangeStr_str, sliceStr_from, sliceStr_to, List.getElem?_cons_zero, List.getElem?_cons_succ, Option.map_some, Option.bind_some, Int.toNat_natCast, Int.toNat_zero, Int.le_refl, Bool.not_true, Bool.not_false, Bool.not_not, Bool.false_eq_true, if_true, if_false, decide_eq_true_eq, beq_self_eq_true, bool_ft, bool_tf, decide_true, decide_false, reduceCtorEq, cmpNil, cmpRes, boxCells, AV.known, AV.cells, Nat.zero_add, and_self, and_true, true_and, ite_self, forall_const, not_true_eq_false, not_false_eq_true, n1, n14, hb4]
            refine c_ref_All _ hml hnm hv' ?_
            simpa [hb4'] using hk
          · have hb4' : ¬ l.length ≤ 4 := by omega
            simpa [n1, n14, hb4, hb4'] using hk
        · have n5 : (kind == 5) = false := by simpa using h5
          have e0 : ((l.length : Int) == 0) = l.isEmpty := by cases l <;> simp <;> omega
          simp only [h5, if_false] at hk
          simp only [abin_i_add, abin_i_sub, abin_i_mul, abin_i_eql, abin_i_neq, abin_i_lss, abin_i_leq, abin_i_gtr, abin_i_geq, abin_s_eql, abin_s_neq, bnd_some, bnd_none, branch_bool, gwant_bool, gwant_nothing, aguard_some, wantE_some, pickV_bool, nilck_ptr, nilck_elem, aoff_ptr, aoff_elem, aun_not, aun_neg, lenStr_str, lenSl_nils, lenSl_sl, lenSl_osl, aextract_tup, ld1uelem, idxStr_str, amin2uint, amax2uint, rangeStr_str, sliceStr_from, sliceStr_to, List.getElem?_cons_zero, List.getElem?_cons_succ, Option.map_some, Option.bind_some, Int.toNat_natCast, Int.toNat_zero, Int.le_refl, Bool.not_true, Bool.not_false, Bool.not_not, Bool.false_eq_true, if_true, if_false, decide_eq_true_eq, beq_self_eq_true, bool_ft, bool_tf, decide_true, decide_false, reduceCtorEq, cmpNil, cmpRes, boxCells, AV.known, AV.cells, Nat.zero_add, and_self, and_true, true_and, ite_self, forall_const, not_true_eq_false, not_false_eq_true, n1, n14, n5, e0]
          exact hk
  simp only [r_hostlerref01uItems]
  rcases hv with ⟨rfl, rfl⟩ | ⟨g, rfl⟩
  · exact fin .nils .nils H (Ext.refl H) (.inl ⟨rfl, rfl⟩) rfl rfl
  · simp only [abin_i_add, abin_i_sub, abin_i_mul, abin_i_eql, abin_i_neq, abin_i_lss, abin_i_leq, abin_i_gtr, abin_i_geq, abin_s_eql, abin_s_neq, bnd_some, bnd_none, branch_bool, gwant_bool, gwant_nothing, aguard_some, wantE_some, pickV_bool, nilck_ptr, nilck_elem, aoff_ptr, aoff_elem, aun_not, aun_neg, lenStr_str, lenSl_nils, lenSl_sl, lenSl_osl, aextract_tup, ld1uelem, idxStr_str, amin2uint, amax2uint, rangeStr_str, sliceStr_from, sliceStr_to, List.getElem?_cons_zero, List.getElem?_cons_succ, Option.map_some, Option.bind_some, Int.toNat_natCast, Int.toNat_zero, Int.le_refl, Bool.not_true, Bool.not_false, Bool.not_not, Bool.false_eq_true, if_true, if_false, decide_eq_true_eq, beq_self_eq_true, bool_ft, bool_tf, decide_true, decide_false, reduceCtorEq, cmpNil, cmpRes, boxCells, AV.known, AV.cells, Nat.zero_add, and_self, and_true, true_and, ite_self, forall_const, not_true_eq_false, not_false_eq_true, List.length_map]
    refine c_Items_loop kind l hs (fun hf H' hx' => by have := h H' hx'; rw [hf] at this; exact this) (fun v' H' hx' hv' ha => fin v' _ H' hx' hv' (by simp) ha) l 0 .nils H rfl (.inl ⟨rfl, rfl⟩) (Ext.refl H) (by omega) rfl
end
end Go.Va

/-
  Contracts: the document's own answer: may a message be?
-/
set_option linter.unusedVariables false
set_option linter.unusedSimpArgs false
set_option maxRecDepth 100000
namespace Go.Va
section
variable {K : AV → AH → Prop} {H : AH}
theorem fieldsOf_none {k : Int} (h : k < 1 ∨ 18 ≤ k) : fieldsOf k = [63] := by
  unfold fieldsOf
  rw [if_neg (by omega), if_neg (by omega), if_neg (by omega), if_neg (by omega), if_neg (by omega), if_neg (by omega), if_neg (by omega), if_neg (by omega), if_neg (by omega), if_neg (by omega), if_neg (by omega), if_neg (by omega), if_neg (by omega)]
theorem fieldsOf_len (k : Int) : (fieldsOf k).length ≤ 5 := by
  by_cases h1 : k < 1 ∨ 18 ≤ k
  · rw [fieldsOf_none h1]; decide
  · have hk : k = 1 ∨ k = 2 ∨ k = 3 ∨ k = 4 ∨ k = 5 ∨ k = 6 ∨ k = 7 ∨ k = 8 ∨ k = 9 ∨ k = 10 ∨ k = 11 ∨ k = 12 ∨ k = 13 ∨ k = 14 ∨ k = 15 ∨ k = 16 ∨ k = 17 := by omega
    rcases hk with rfl | rfl | rfl | rfl | rfl | rfl | rfl | rfl | rfl | rfl | rfl | rfl | rfl | rfl | rfl | rfl | rfl <;> decide
theorem c_ref_Fields (k : Int) (h : K (.str (fieldsOf k)) H) : r_hostlerref01uFields [.int .i64 k] H K := by
  have hb : buildSl 1 18 [(0, (.str [63])), (1, (.str [70, 69, 73])), (2, (.str [70, 84])), (3, (.str [70])), (4, (.str [70, 84, 85, 80])), (5, (.str [70, 73])), (6, (.str [])), (7, (.str [70, 69, 78])), (8, (.str [70, 69, 78, 84, 83])), (9, (.str [70, 69, 78])), (10, (.str [80])), (11, (.str [70, 84, 85, 80, 83])), (12, (.str [70, 84, 83])), (13, (.str [70, 69, 78])), (14, (.str [70, 69, 78, 73])), (15, (.str [70, 69, 78, 84])), (16, (.str [70, 69, 78])), (17, (.str [70, 69, 78]))] =
    some (.sl .full 1 (([[63], [70, 69, 73], [70, 84], [70], [70, 84, 85, 80], [70, 73], [], [70, 69, 78], [70, 69, 78, 84, 83], [70, 69, 78], [80], [70, 84, 85, 80, 83], [70, 84, 83], [70, 69, 78], [70, 69, 78, 73], [70, 69, 78, 84], [70, 69, 78], [70, 69, 78]] : List Bs).map .str)) := rfl
  simp only [r_hostlerref01uFields, hb, abin_i_add, abin_i_sub, abin_i_mul, abin_i_eql, abin_i_neq, abin_i_lss, abin_i_leq, abin_i_gtr, abin_i_geq, abin_s_eql, abin_s_neq, bnd_some, bnd_none, branch_bool, gwant_bool, gwant_nothing, aguard_some, wantE_some, pickV_bool, nilck_ptr, nilck_elem, aoff_ptr, aoff_elem, aun_not, aun_neg, lenStr_str, lenSl_nils, lenSl_sl, lenSl_osl, aextract_tup, ld1uelem, idxStr_str, amin2uint, amax2uint, rangeStr_str, sliceStr_from, sliceStr_to, List.getElem?_cons_zero, List.getElem?_cons_succ, Option.map_some, Option.bind_some, Int.toNat_natCast, Int.toNat_zero, Int.le_refl, Bool.not_true, Bool.not_false, Bool.not_not, Bool.false_eq_true, if_true, if_false, decide_eq_true_eq, beq_self_eq_true, bool_ft, bool_tf, decide_true, decide_false, reduceCtorEq, cmpNil, cmpRes, boxCells, AV.known, AV.cells, Nat.zero_add, and_self, and_true, true_and, ite_self, forall_const, not_true_eq_false, not_false_eq_true, List.length_map]
  by_cases h1 : k < 1
  · have := fieldsOf_none (.inl h1)
    rw [this] at h
    simpa [h1] using h
  by_cases h2 : 18 ≤ k
  · have := fieldsOf_none (.inr h2)
    rw [this] at h
    have h2' : k ≥ 18 := h2
    simpa [h1, h2'] using h
  · have hk : k = 1 ∨ k = 2 ∨ k = 3 ∨ k = 4 ∨ k = 5 ∨ k = 6 ∨ k = 7 ∨ k = 8 ∨ k = 9 ∨ k = 10 ∨ k = 11 ∨ k = 12 ∨ k = 13 ∨ k = 14 ∨ k = 15 ∨ k = 16 ∨ k = 17 := by omega
    rcases hk with rfl | rfl | rfl | rfl | rfl | rfl | rfl | rfl | rfl | rfl | rfl | rfl | rfl | rfl | rfl | rfl | rfl <;> exact h
theorem c_ref_Check (m : Msg) (hm : MsgSmall m) {iv : AV} (hv : IsItems iv m.items) (h : ∀ H', Ext H H' → K (.bool (checkM m)) H') : r_hostlerref01uCheck [.agg (msgCells m iv)] H K := by
  obtain ⟨hf, he, ht, hit⟩ := hm
  have hfl : (fieldsOf m.kind).length ≤ 1000000000 := by
    have := fieldsOf_len m.kind; omega
  have hcheck : checkM m = ((fieldsOf m.kind != [63]) && textOk (fieldsOf m.kind) 70 m.f && textOk (fieldsOf m.kind) 69 m.e && textOk (fieldsOf m.kind) 84 m.t && numOk (fieldsOf m.kind) 78 m.n && numOk (fieldsOf m.kind) 85 m.num && numOk (fieldsOf m.kind) 80 m.epoch && numOk (fieldsOf m.kind) 83 m.state && itemsR m.kind m.items) := by
    rcases itemsR_eq m.kind m.items with h1 | h1
    · rw [h1]
      simp only [checkM]
      generalize (fieldsOf m.kind != [63]) = a1
      generalize textOk (fieldsOf m.kind) 70 m.f = a2
      generalize textOk (fieldsOf m.kind) 69 m.e = a3
      generalize textOk (fieldsOf m.kind) 84 m.t = a4
      generalize numOk (fieldsOf m.kind) 78 m.n = a5
      generalize numOk (fieldsOf m.kind) 85 m.num = a6
      generalize numOk (fieldsOf m.kind) 80 m.epoch = a7
      generalize numOk (fieldsOf m.kind) 83 m.state = a8
      generalize (if (fieldsOf m.kind).contains 73 = true then listOk m.kind m.items else m.items.isEmpty) = a9
      cases a1 <;> cases a2 <;> cases a3 <;> cases a4 <;> cases a5 <;> cases a6 <;> cases a7 <;> cases a8 <;> cases a9 <;> rfl
    · simp only [checkM, h1]; rfl
  have hg0 := get_add_self H (.cells (msgCells m iv))
  have hx0 : Ext H (H.add (.cells (msgCells m iv))) := (Ext.refl H).add _
  have hk := h
  rw [hcheck] at hk
  have e0 : (msgCells m iv)[0]? = some (.int .i64 m.kind) := rfl
  have e1 : (msgCells m iv)[1]? = some (.str m.f) := rfl
  have e2 : (msgCells m iv)[2]? = some (.str m.e) := rfl
  have e3 : (msgCells m iv)[3]? = some (.str m.t) := rfl
  have e4 : (msgCells m iv)[4]? = some (.int .i64 m.n) := rfl
  have e5 : (msgCells m iv)[5]? = some (.int .i64 m.state) := rfl
  have e6 : (msgCells m iv)[6]? = some (.int .i64 m.num) := rfl
  have e7 : (msgCells m iv)[7]? = some (.int .i64 m.epoch) := rfl
  have e8 : (msgCells m iv)[8]? = some iv := rfl
  simp only [r_hostlerref01uCheck, abin_i_add, abin_i_sub, abin_i_mul, abin_i_eql, abin_i_neq, abin_i_lss, abin_i_leq, abin_i_gtr, abin_i_geq, abin_s_eql, abin_s_neq, bnd_some, bnd_none, branch_bool, gwant_bool, gwant_nothing, aguard_some, wantE_some, pickV_bool, nilck_ptr, nilck_elem, aoff_ptr, aoff_elem, aun_not, aun_neg, lenStr_str, lenSl_nils, lenSl_sl, lenSl_osl, aextract_tup, ld1uelem, idxStr_str, amin2uint, amax2uint, rangeStr_str, sliceStr_from, sliceStr_to, List.getElem?_cons_zero, List.getElem?_cons_succ, Option.map_some, Option.bind_some, Int.toNat_natCast, Int.toNat_zero, Int.le_refl, Bool.not_true, Bool.not_false, Bool.not_not, Bool.false_eq_true, if_true, if_false, decide_eq_true_eq, beq_self_eq_true, bool_ft, bool_tf, decide_true, decide_false, reduceCtorEq, cmpNil, cmpRes, boxCells, AV.known, AV.cells, Nat.zero_add, and_self, and_true, true_and, ite_self, forall_const, not_true_eq_false, not_false_eq_true]
  generalize hcs : msgCells m iv = cs at hg0 hx0 e0 e1 e2 e3 e4 e5 e6 e7 e8
  generalize H.add (.cells cs) = H1 at hg0 hx0
  have hnow := hk H1 hx0
  have L := fun i => ld1uptr hg0 i
  have tx : ∀ (f : UInt8) (s : Bs), (if (fieldsOf m.kind).contains f = true then rightN s else s == []) = textOk (fieldsOf m.kind) f s := fun _ _ => rfl
  have nx : ∀ (f : UInt8) (n mx : Int), (f = 83 → mx = 7) → (f ≠ 83 → mx = 2147483647) → (if (fieldsOf m.kind).contains f = true then decide (1 ≤ n) && decide (n ≤ mx) else n == 0) = numOk (fieldsOf m.kind) f n := fun f n mx h1 h2 => by
    by_cases h83 : f = 83
    · subst h83; rw [h1 rfl]; rfl
    · rw [h2 h83]; simp only [numOk, numberOk, h83, if_false]
  simp only [L, e0, abin_i_add, abin_i_sub, abin_i_mul, abin_i_eql, abin_i_neq, abin_i_lss, abin_i_leq, abin_i_gtr, abin_i_geq, abin_s_eql, abin_s_neq, bnd_some, bnd_none, branch_bool, gwant_bool, gwant_nothing, aguard_some, wantE_some, pickV_bool, nilck_ptr, nilck_elem, aoff_ptr, aoff_elem, aun_not, aun_neg, lenStr_str, lenSl_nils, lenSl_sl, lenSl_osl, aextract_tup, ld1uelem, idxStr_str, amin2uint, amax2uint, rangeStr_str, sliceStr_from, sliceStr_to, List.getElem?_cons_zero, List.getElem?_cons_succ, Option.map_some, Option.bind_some, Int.toNat_natCast, Int.toNat_zero, Int.le_refl, Bool.not_true, Bool.not_false, Bool.not_not, Bool.false_eq_true, if_true, if_false, decide_eq_true_eq, beq_self_eq_true, bool_ft, bool_tf, decide_true, decide_false, reduceCtorEq, cmpNil, cmpRes, boxCells, AV.known, AV.cells, Nat.zero_add, and_self, and_true, true_and, ite_self, forall_const, not_true_eq_false, not_false_eq_true]
  refine c_ref_Fields m.kind ?_
  generalize hfs : fieldsOf m.kind = fs at *
  simp only [bne] at hnow hk
  simp only [abin_i_add, abin_i_sub, abin_i_mul, abin_i_eql, abin_i_neq, abin_i_lss, abin_i_leq, abin_i_gtr, abin_i_geq, abin_s_eql, abin_s_neq, bnd_some, bnd_none, branch_bool, gwant_bool, gwant_nothing, aguard_some, wantE_some, pickV_bool, nilck_ptr, nilck_elem, aoff_ptr, aoff_elem, aun_not, aun_neg, lenStr_str, lenSl_nils, lenSl_sl, lenSl_osl, aextract_tup, ld1uelem, idxStr_str, amin2uint, amax2uint, rangeStr_str, sliceStr_from, sliceStr_to, List.getElem?_cons_zero, List.getElem?_cons_succ, Option.map_some, Option.bind_some, Int.toNat_natCast, Int.toNat_zero, Int.le_refl, Bool.not_true, Bool.not_false, Bool.not_not, Bool.false_eq_true, if_true, if_false, decide_eq_true_eq, beq_self_eq_true, bool_ft, bool_tf, decide_true, decide_false, reduceCtorEq, cmpNil, cmpRes, boxCells, AV.known, AV.cells, Nat.zero_add, and_self, and_true, true_and, ite_self, forall_const, not_true_eq_false, not_false_eq_true]
  cases b0 : (fs == [63]) with
  | true => rw [b0] at hnow; simpa using hnow
  | false =>
    rw [b0] at hnow
    simp only [abin_i_add, abin_i_sub, abin_i_mul, abin_i_eql, abin_i_neq, abin_i_lss, abin_i_leq, abin_i_gtr, abin_i_geq, abin_s_eql, abin_s_neq, bnd_some, bnd_none, branch_bool, gwant_bool, gwant_nothing, aguard_some, wantE_some, pickV_bool, nilck_ptr, nilck_elem, aoff_ptr, aoff_elem, aun_not, aun_neg, lenStr_str, lenSl_nils, lenSl_sl, lenSl_osl, aextract_tup, ld1uelem, idxStr_str, amin2uint, amax2uint, rangeStr_str, sliceStr_from, sliceStr_to, List.getElem?_cons_zero, List.getElem?_cons_succ, Option.map_some, Option.bind_some, Int.toNat_natCast, Int.toNat_zero, Int.le_refl, Bool.not_true, Bool.not_false, Bool.not_not, Bool.false_eq_true, if_true, if_false, decide_eq_true_eq, beq_self_eq_true, bool_ft, bool_tf, decide_true, decide_false, reduceCtorEq, cmpNil, cmpRes, boxCells, AV.known, AV.cells, Nat.zero_add, and_self, and_true, true_and, ite_self, forall_const, not_true_eq_false, not_false_eq_true, L, e1]
    refine c_ref_has fs hfl 70 ?_
    simp only [abin_i_add, abin_i_sub, abin_i_mul, abin_i_eql, abin_i_neq, abin_i_lss, abin_i_leq, abin_i_gtr, abin_i_geq, abin_s_eql, abin_s_neq, bnd_some, bnd_none, branch_bool, gwant_bool, gwant_nothing, aguard_some, wantE_some, pickV_bool, nilck_ptr, nilck_elem, aoff_ptr, aoff_elem, aun_not, aun_neg, lenStr_str, lenSl_nils, lenSl_sl, lenSl_osl, aextract_tup, ld1uelem, idxStr_str, amin2uint, amax2uint, rangeStr_str, sliceStr_from, sliceStr_to, List.getElem?_cons_zero, List.getElem?_cons_succ, Option.map_some, Option.bind_some, Int.toNat_natCast, Int.toNat_zero, Int.le_refl, Bool.not_true, Bool.not_false, Bool.not_not, Bool.false_eq_true, if_true, if_false, decide_eq_true_eq, beq_self_eq_true, bool_ft, bool_tf, decide_true, decide_false, reduceCtorEq, cmpNil, cmpRes, boxCells, AV.known, AV.cells, Nat.zero_add, and_self, and_true, true_and, ite_self, forall_const, not_true_eq_false, not_false_eq_true, wantE_some, L, e1]
    refine c_ref_text m.f hf _ ?_
    rw [tx]
    cases b1 : textOk fs 70 m.f with
    | false => rw [b1] at hnow; simpa using hnow
    | true =>
      rw [b1] at hnow
      simp only [abin_i_add, abin_i_sub, abin_i_mul, abin_i_eql, abin_i_neq, abin_i_lss, abin_i_leq, abin_i_gtr, abin_i_geq, abin_s_eql, abin_s_neq, bnd_some, bnd_none, branch_bool, gwant_bool, gwant_nothing, aguard_some, wantE_some, pickV_bool, nilck_ptr, nilck_elem, aoff_ptr, aoff_elem, aun_not, aun_neg, lenStr_str, lenSl_nils, lenSl_sl, lenSl_osl, aextract_tup, ld1uelem, idxStr_str, amin2uint, amax2uint, rangeStr_str, sliceStr_from, sliceStr_to, List.getElem?_cons_zero, List.getElem?_cons_succ, Option.map_some, Option.bind_some, Int.toNat_natCast, Int.toNat_zero, Int.le_refl, Bool.not_true, Bool.not_false, Bool.not_not, Bool.false_eq_true, if_true, if_false, decide_eq_true_eq, beq_self_eq_true, bool_ft, bool_tf, decide_true, decide_false, reduceCtorEq, cmpNil, cmpRes, boxCells, AV.known, AV.cells, Nat.zero_add, and_self, and_true, true_and, ite_self, forall_const, not_true_eq_false, not_false_eq_true, L, e2]
      refine c_ref_has fs hfl 69 ?_
      simp only [abin_i_add, abin_i_sub, abin_i_mul, abin_i_eql, abin_i_neq, abin_i_lss, abin_i_leq, abin_i_gtr, abin_i_geq, abin_s_eql, abin_s_neq, bnd_some, bnd_none, branch_bool, gwant_bool, gwant_nothing, aguard_some, wantE_some, pickV_bool, nilck_ptr, nilck_elem, aoff_ptr, aoff_elem, aun_not, aun_neg, lenStr_str, lenSl_nils, lenSl_sl, lenSl_osl, aextract_tup, ld1uelem, idxStr_str, amin2uint, amax2uint, rangeStr_str, sliceStr_from, sliceStr_to, List.getElem?_cons_zero, List.getElem?_cons_succ, Option.map_some, Option.bind_some, Int.toNat_natCast, Int.toNat_zero, Int.le_refl, Bool.not_true, Bool.not_false, Bool.not_not, Bool.false_eq_true, if_true, if_false, decide_eq_true_eq, beq_self_eq_true, bool_ft, bool_tf, decide_true, decide_false, reduceCtorEq, cmpNil, cmpRes, boxCells, AV.known, AV.cells, Nat.zero_add, and_self, and_true, true_and, ite_self, forall_const, not_true_eq_false, not_false_eq_true, wantE_some, L, e2]
      refine c_ref_text m.e he _ ?_
      rw [tx]
      cases b2 : textOk fs 69 m.e with
      | false => rw [b2] at hnow; simpa using hnow
      | true =>
        rw [b2] at hnow
        simp only [abin_i_add, abin_i_sub, abin_i_mul, abin_i_eql, abin_i_neq, abin_i_lss, abin_i_leq, abin_i_gtr, abin_i_geq, abin_s_eql, abin_s_neq, bnd_some, bnd_none, branch_bool, gwant_bool, gwant_nothing, aguard_some, wantE_some, pickV_bool, nilck_ptr, nilck_elem, aoff_ptr, aoff_elem, aun_not, aun_neg, lenStr_str, lenSl_nils, lenSl_sl, lenSl_osl, aextract_tup, ld1uelem, idxStr_str, amin2uint, amax2uint, rangeStr_str, sliceStr_from, sliceStr_to, List.getElem?_cons_zero, List.getElem?_cons_succ, Option.map_some, Option.bind_some, Int.toNat_natCast, Int.toNat_zero, Int.le_refl, Bool.not_true, Bool.not_false, Bool.not_not, Bool.false_eq_true, if_true, if_false, decide_eq_true_eq, beq_self_eq_true, bool_ft, bool_tf, decide_true, decide_false, reduceCtorEq, cmpNil, cmpRes, boxCells, AV.known, AV.cells, Nat.zero_add, and_self, and_true, true_and, ite_self, forall_const, not_true_eq_false, not_false_eq_true, L, e3]
        refine c_ref_has fs hfl 84 ?_
        simp only [abin_i_add, abin_i_sub, abin_i_mul, abin_i_eql, abin_i_neq, abin_i_lss, abin_i_leq, abin_i_gtr, abin_i_geq, abin_s_eql, abin_s_neq, bnd_some, bnd_none, branch_bool, gwant_bool, gwant_nothing, aguard_some, wantE_some, pickV_bool, nilck_ptr, nilck_elem, aoff_ptr, aoff_elem, aun_not, aun_neg, lenStr_str, lenSl_nils, lenSl_sl, lenSl_osl, aextract_tup, ld1uelem, idxStr_str, amin2uint, amax2uint, rangeStr_str, sliceStr_from, sliceStr_to, List.getElem?_cons_zero, List.getElem?_cons_succ, Option.map_some, Option.bind_some, Int.toNat_natCast, Int.toNat_zero, Int.le_refl, Bool.not_true, Bool.not_false, Bool.not_not, Bool.false_eq_true, if_true, if_false, decide_eq_true_eq, beq_self_eq_true, bool_ft, bool_tf, decide_true, decide_false, reduceCtorEq, cmpNil, cmpRes, boxCells, AV.known, AV.cells, Nat.zero_add, and_self, and_true, true_and, ite_self, forall_const, not_true_eq_false, not_false_eq_true, wantE_some, L, e3]
        refine c_ref_text m.t ht _ ?_
        rw [tx]
        cases b3 : textOk fs 84 m.t with
        | false => rw [b3] at hnow; simpa using hnow
        | true =>
          rw [b3] at hnow
          simp only [abin_i_add, abin_i_sub, abin_i_mul, abin_i_eql, abin_i_neq, abin_i_lss, abin_i_leq, abin_i_gtr, abin_i_geq, abin_s_eql, abin_s_neq, bnd_some, bnd_none, branch_bool, gwant_bool, gwant_nothing, aguard_some, wantE_some, pickV_bool, nilck_ptr, nilck_elem, aoff_ptr, aoff_elem, aun_not, aun_neg, lenStr_str, lenSl_nils, lenSl_sl, lenSl_osl, aextract_tup, ld1uelem, idxStr_str, amin2uint, amax2uint, rangeStr_str, sliceStr_from, sliceStr_to, List.getElem?_cons_zero, List.getElem?_cons_succ, Option.map_some, Option.bind_some, Int.toNat_natCast, Int.toNat_zero, Int.le_refl, Bool.not_true, Bool.not_false, Bool.not_not, Bool.false_eq_true, if_true, if_false, decide_eq_true_eq, beq_self_eq_true, bool_ft, bool_tf, decide_true, decide_false, reduceCtorEq, cmpNil, cmpRes, boxCells, AV.known, AV.cells, Nat.zero_add, and_self, and_true, true_and, ite_self, forall_const, not_true_eq_false, not_false_eq_true, L, e4]
          refine c_ref_has fs hfl 78 ?_
          simp only [abin_i_add, abin_i_sub, abin_i_mul, abin_i_eql, abin_i_neq, abin_i_lss, abin_i_leq, abin_i_gtr, abin_i_geq, abin_s_eql, abin_s_neq, bnd_some, bnd_none, branch_bool, gwant_bool, gwant_nothing, aguard_some, wantE_some, pickV_bool, nilck_ptr, nilck_elem, aoff_ptr, aoff_elem, aun_not, aun_neg, lenStr_str, lenSl_nils, lenSl_sl, lenSl_osl, aextract_tup, ld1uelem, idxStr_str, amin2uint, amax2uint, rangeStr_str, sliceStr_from, sliceStr_to, List.getElem?_cons_zero, List.getElem?_cons_succ, Option.map_some, Option.bind_some, Int.toNat_natCast, Int.toNat_zero, Int.le_refl, Bool.not_true, Bool.not_false, Bool.not_not, Bool.false_eq_true, if_true, if_false, decide_eq_true_eq, beq_self_eq_true, bool_ft, bool_tf, decide_true, decide_false, reduceCtorEq, cmpNil, cmpRes, boxCells, AV.known, AV.cells, Nat.zero_add, and_self, and_true, true_and, ite_self, forall_const, not_true_eq_false, not_false_eq_true, wantE_some, L, e4]
          refine c_ref_field m.n 2147483647 _ ?_
          rw [nx 78 _ _ (by decide) (by decide)]
          cases b4 : numOk fs 78 m.n with
          | false => rw [b4] at hnow; simpa using hnow
          | true =>
            rw [b4] at hnow
            simp only [abin_i_add, abin_i_sub, abin_i_mul, abin_i_eql, abin_i_neq, abin_i_lss, abin_i_leq, abin_i_gtr, abin_i_geq, abin_s_eql, abin_s_neq, bnd_some, bnd_none, branch_bool, gwant_bool, gwant_nothing, aguard_some, wantE_some, pickV_bool, nilck_ptr, nilck_elem, aoff_ptr, aoff_elem, aun_not, aun_neg, lenStr_str, lenSl_nils, lenSl_sl, lenSl_osl, aextract_tup, ld1uelem, idxStr_str, amin2uint, amax2uint, rangeStr_str, sliceStr_from, sliceStr_to, List.getElem?_cons_zero, List.getElem?_cons_succ, Option.map_some, Option.bind_some, Int.toNat_natCast, Int.toNat_zero, Int.le_refl, Bool.not_true, Bool.not_false, Bool.not_not, Bool.false_eq_true, if_true, if_false, decide_eq_true_eq, beq_self_eq_true, bool_ft, bool_tf, decide_true, decide_false, reduceCtorEq, cmpNil, cmpRes, boxCells, AV.known, AV.cells, Nat.zero_add, and_self, and_true, true_and, ite_self, forall_const, not_true_eq_false, not_false_eq_true, L, e6]
            refine c_ref_has fs hfl 85 ?_
            simp only [abin_i_add, abin_i_sub, abin_i_mul, abin_i_eql, abin_i_neq, abin_i_lss, abin_i_leq, abin_i_gtr, abin_i_geq, abin_s_eql, abin_s_neq, bnd_some, bnd_none, branch_bool, gwant_bool, gwant_nothing, aguard_some, wantE_some, pickV_bool, nilck_ptr, nilck_elem, aoff_ptr, aoff_elem, aun_not, aun_neg, lenStr_str, lenSl_nils, lenSl_sl, lenSl_osl, aextract_tup, ld1uelem, idxStr_str, amin2uint, amax2uint, rangeStr_str, sliceStr_from, sliceStr_to, List.getElem?_cons_zero, List.getElem?_cons_succ, Option.map_some, Option.bind_some, Int.toNat_natCast, Int.toNat_zero, Int.le_refl, Bool.not_true, Bool.not_false, Bool.not_not, Bool.false_eq_true, if_true, if_false, decide_eq_true_eq, beq_self_eq_true, bool_ft, bool_tf, decide_true, decide_false, reduceCtorEq, cmpNil, cmpRes, boxCells, AV.known, AV.cells, Nat.zero_add, and_self, and_true, true_and, ite_self, forall_const, not_true_eq_false, not_false_eq_true, wantE_some, L, e6]
            refine c_ref_field m.num 2147483647 _ ?_
            rw [nx 85 _ _ (by decide) (by decide)]
            cases b5 : numOk fs 85 m.num with
            | false => rw [b5] at hnow; simpa using hnow
            | true =>
              rw [b5] at hnow
              simp only [abin_i_add, abin_i_sub, abin_i_mul, abin_i_eql, abin_i_neq, abin_i_lss, abin_i_leq, abin_i_gtr, abin_i_geq, abin_s_eql, abin_s_neq, bnd_some, bnd_none, branch_bool, gwant_bool, gwant_nothing, aguard_some, wantE_some, pickV_bool, nilck_ptr, nilck_elem, aoff_ptr, aoff_elem, aun_not, aun_neg, lenStr_str, lenSl_nils, lenSl_sl, lenSl_osl, aextract_tup, ld1uelem, idxStr_str, amin2uint, amax2uint, rangeStr_str, sliceStr_from, sliceStr_to, List.getElem?_cons_zero, List.getElem?_cons_succ, Option.map_some, Option.bind_some, Int.toNat_natCast, Int.toNat_zero, Int.le_refl, Bool.not_true, Bool.not_false, Bool.not_not, Bool.false_eq_true, if_true, if_false, decide_eq_true_eq, beq_self_eq_true, bool_ft, bool_tf, decide_true, decide_false, reduceCtorEq, cmpNil, cmpRes, boxCells, AV.known, AV.cells, Nat.zero_add, and_self, and_true, true_and, ite_self, forall_const, not_true_eq_false, not_false_eq_true, L, e7]
              refine c_ref_has fs hfl 80 ?_
              simp only [abin_i_add, abin_i_sub, abin_i_mul, abin_i_eql, abin_i_neq, abin_i_lss, abin_i_leq, abin_i_gtr, abin_i_geq, abin_s_eql, abin_s_neq, bnd_some, bnd_none, branch_bool, gwant_bool, gwant_nothing, aguard_some, wantE_some, pickV_bool, nilck_ptr, nilck_elem, aoff_ptr, aoff_elem, aun_not, aun_neg, lenStr_str, lenSl_nils, lenSl_sl, lenSl_osl, aextract_tup, ld1uelem, idxStr_str, amin2uint, amax2uint, rangeStr_str, sliceStr_from, sliceStr_to, List.getElem?_cons_zero, List.getElem?_cons_succ, Option.map_some, Option.bind_some, Int.toNat_natCast, Int.toNat_zero, Int.le_refl, Bool.not_true, Bool.not_false, Bool.not_not, Bool.false_eq_true, if_true, if_false, decide_eq_true_eq, beq_self_eq_true, bool_ft, bool_tf, decide_true, decide_false, reduceCtorEq, cmpNil, cmpRes, boxCells, AV.known, AV.cells, Nat.zero_add, and_self, and_true, true_and, ite_self, forall_const, not_true_eq_false, not_false_eq_true, wantE_some, L, e7]
              refine c_ref_field m.epoch 2147483647 _ ?_
              rw [nx 80 _ _ (by decide) (by decide)]
              cases b6 : numOk fs 80 m.epoch with
              | false => rw [b6] at hnow; simpa using hnow
              | true =>
                rw [b6] at hnow
                simp only [abin_i_add, abin_i_sub, abin_i_mul, abin_i_eql, abin_i_neq, abin_i_lss, abin_i_leq, abin_i_gtr, abin_i_geq, abin_s_eql, abin_s_neq, bnd_some, bnd_none, branch_bool, gwant_bool, gwant_nothing, aguard_some, wantE_some, pickV_bool, nilck_ptr, nilck_elem, aoff_ptr, aoff_elem, aun_not, aun_neg, lenStr_str, lenSl_nils, lenSl_sl, lenSl_osl, aextract_tup, ld1uelem, idxStr_str, amin2uint, amax2uint, rangeStr_str, sliceStr_from, sliceStr_to, List.getElem?_cons_zero, List.getElem?_cons_succ, Option.map_some, Option.bind_some, Int.toNat_natCast, Int.toNat_zero, Int.le_refl, Bool.not_true, Bool.not_false, Bool.not_not, Bool.false_eq_true, if_true, if_false, decide_eq_true_eq, beq_self_eq_true, bool_ft, bool_tf, decide_true, decide_false, reduceCtorEq, cmpNil, cmpRes, boxCells, AV.known, AV.cells, Nat.zero_add, and_self, and_true, true_and, ite_self, forall_const, not_true_eq_false, not_false_eq_true, L, e5]
                refine c_ref_has fs hfl 83 ?_
                simp only [abin_i_add, abin_i_sub, abin_i_mul, abin_i_eql, abin_i_neq, abin_i_lss, abin_i_leq, abin_i_gtr, abin_i_geq, abin_s_eql, abin_s_neq, bnd_some, bnd_none, branch_bool, gwant_bool, gwant_nothing, aguard_some, wantE_some, pickV_bool, nilck_ptr, nilck_elem, aoff_ptr, aoff_elem, aun_not, aun_neg, lenStr_str, lenSl_nils, lenSl_sl, lenSl_osl, aextract_tup, ld1uelem, idxStr_str, amin2uint, amax2uint, rangeStr_str, sliceStr_from, sliceStr_to, List.getElem?_cons_zero, List.getElem?_cons_succ, Option.map_some, Option.bind_some, Int.toNat_natCast, Int.toNat_zero, Int.le_refl, Bool.not_true, Bool.not_false, Bool.not_not, Bool.false_eq_true, if_true, if_false, decide_eq_true_eq, beq_self_eq_true, bool_ft, bool_tf, decide_true, decide_false, reduceCtorEq, cmpNil, cmpRes, boxCells, AV.known, AV.cells, Nat.zero_add, and_self, and_true, true_and, ite_self, forall_const, not_true_eq_false, not_false_eq_true, wantE_some, L, e5]
                refine c_ref_field m.state 7 _ ?_
                rw [nx 83 _ _ (by decide) (by decide)]
                cases b7 : numOk fs 83 m.state with
                | false => rw [b7] at hnow; simpa using hnow
                | true =>
                  simp only [abin_i_add, abin_i_sub, abin_i_mul, abin_i_eql, abin_i_neq, abin_i_lss, abin_i_leq, abin_i_gtr, abin_i_geq, abin_s_eql, abin_s_neq, bnd_some, bnd_none, branch_bool, gwant_bool, gwant_nothing, aguard_some, wantE_some, pickV_bool, nilck_ptr, nilck_elem, aoff_ptr, aoff_elem, aun_not, aun_neg, lenStr_str, lenSl_nils, lenSl_sl, lenSl_osl, aextract_tup, ld1uelem, idxStr_str, amin2uint, amax2uint, rangeStr_str, sliceStr_from, sliceStr_to, List.getElem?_cons_zero, List.getElem?_cons_succ, Option.map_some, Option.bind_some, Int.toNat_natCast, Int.toNat_zero, Int.le_refl, Bool.not_true, Bool.not_false, Bool.not_not, Bool.false_eq_true, if_true, if_false, decide_eq_true_eq, beq_self_eq_true, bool_ft, bool_tf, decide_true, decide_false, reduceCtorEq, cmpNil, cmpRes, boxCells, AV.known, AV.cells, Nat.zero_add, and_self, and_true, true_and, ite_self, forall_const, not_true_eq_false, not_false_eq_true, L, e0, e8]
                  refine c_ref_Items m.kind m.items hit hv fun H2 hx2 => ?_
                  have := hk H2 (hx0.trans hx2)
                  rw [b0, b1, b2, b3, b4, b5, b6, b7] at this
                  simpa using this
end
end Go.Va

/-
  Contracts: the document's own reading of numbers, words, lines.
-/
set_option linter.unusedVariables false
set_option linter.unusedSimpArgs false
set_option maxRecDepth 100000
namespace Go.Va
section
variable {K : AV → AH → Prop} {H : AH}
theorem c_keep_Text (s : Bs) (n : Nat) (h : K (.str (s.take n)) H) : r_hostlerkeep_Text [.str s, .int .i64 n] H K := by
  have e : (if (n : Int) < (s.length : Int) then (n : Int) else (s.length : Int)) = ((min n s.length : Nat) : Int) := by split <;> omega
  have e2 : (0 : Int) ≤ ((min n s.length : Nat) : Int) ∧ ((min n s.length : Nat) : Int) ≤ (s.length : Int) := by omega
  have e3 : s.take (min n s.length) = s.take n := by rw [List.take_eq_take_iff]; omega
  simp only [r_hostlerkeep_Text, abin_i_add, abin_i_sub, abin_i_mul, abin_i_eql, abin_i_neq, abin_i_lss, abin_i_leq, abin_i_gtr, abin_i_geq, abin_s_eql, abin_s_neq, bnd_some, bnd_none, branch_bool, gwant_bool, gwant_nothing, aguard_some, wantE_some, pickV_bool, nilck_ptr, nilck_elem, aoff_ptr, aoff_elem, aun_not, aun_neg, lenStr_str, lenSl_nils, lenSl_sl, lenSl_osl, aextract_tup, ld1uelem, idxStr_str, amin2uint, amax2uint, rangeStr_str, sliceStr_from, sliceStr_to, List.getElem?_cons_zero, List.getElem?_cons_succ, Option.map_some, Option.bind_some, Int.toNat_natCast, Int.toNat_zero, Int.le_refl, Bool.not_true, Bool.not_false, Bool.not_not, Bool.false_eq_true, if_true, if_false, decide_eq_true_eq, beq_self_eq_true, bool_ft, bool_tf, decide_true, decide_false, reduceCtorEq, cmpNil, cmpRes, boxCells, AV.known, AV.cells, Nat.zero_add, and_self, and_true, true_and, ite_self, forall_const, not_true_eq_false, not_false_eq_true, e, e2, e3]
  exact h
theorem c_kinds (h : K (.sl .full 1 (([[], wRun, wKill, wShut, wAck, wAsk, wWelcome, wHello, wReport, wGone] : List Bs).map .str)) H) : r_hostlerlaw21ukinds [] H K := by
  have hb : buildSl 1 10 [(0, (.str [])), (1, (.str [114, 117, 110])), (2, (.str [107, 105, 108, 108])), (3, (.str [115, 104, 117, 116])), (4, (.str [97, 99, 107])), (5, (.str [97, 115, 107])), (6, (.str [119, 101, 108, 99, 111, 109, 101])), (7, (.str [104, 101, 108, 108, 111])), (8, (.str [114, 101, 112, 111, 114, 116])), (9, (.str [103, 111, 110, 101]))] =
    some (.sl .full 1 (([[], wRun, wKill, wShut, wAck, wAsk, wWelcome, wHello, wReport, wGone] : List Bs).map .str)) := rfl
  simp only [r_hostlerlaw21ukinds, hb, abin_i_add, abin_i_sub, abin_i_mul, abin_i_eql, abin_i_neq, abin_i_lss, abin_i_leq, abin_i_gtr, abin_i_geq, abin_s_eql, abin_s_neq, bnd_some, bnd_none, branch_bool, gwant_bool, gwant_nothing, aguard_some, wantE_some, pickV_bool, nilck_ptr, nilck_elem, aoff_ptr, aoff_elem, aun_not, aun_neg, lenStr_str, lenSl_nils, lenSl_sl, lenSl_osl, aextract_tup, ld1uelem, idxStr_str, amin2uint, amax2uint, rangeStr_str, sliceStr_from, sliceStr_to, List.getElem?_cons_zero, List.getElem?_cons_succ, Option.map_some, Option.bind_some, Int.toNat_natCast, Int.toNat_zero, Int.le_refl, Bool.not_true, Bool.not_false, Bool.not_not, Bool.false_eq_true, if_true, if_false, decide_eq_true_eq, beq_self_eq_true, bool_ft, bool_tf, decide_true, decide_false, reduceCtorEq, cmpNil, cmpRes, boxCells, AV.known, AV.cells, Nat.zero_add, and_self, and_true, true_and, ite_self, forall_const, not_true_eq_false, not_false_eq_true]
  exact h
-- numbers
theorem foldl_lt (l : Bs) : ∀ n : Nat, l.foldl numStep n ≤ (n + 1) * 256 ^ l.length := by
  induction l with
  | nil => intro n; simp
  | cons c l ih =>
    intro n
    simp only [List.foldl_cons, List.length_cons]
    refine Nat.le_trans (ih _) ?_
    have hc : c.toNat < 256 := c.toNat_lt
    have : numStep n c + 1 ≤ (n + 1) * 256 := by simp only [numStep]; omega
    calc (numStep n c + 1) * 256 ^ l.length ≤ ((n + 1) * 256) * 256 ^ l.length := Nat.mul_le_mul_right _ this
      _ = (n + 1) * 256 ^ (l.length + 1) := by rw [Nat.mul_assoc, Nat.pow_succ, Nat.mul_comm 256]
theorem c_dNumber_loop (s : Bs) (hs : s.length ≤ 9) (hno : s.all isDig = false → K (.tup [.int .i64 0, .bool false]) H) (hok : s.all isDig = true → K (.tup [.int .i64 (numOf s), .bool true]) H) :
    ∀ (r : Bs) (i : Nat), s.drop i = r → (s.take i).all isDig = true → LoopP (r_hostlerlaw21uNumber_p244 K) [.str s, .int .i64 ((s.take i).foldl numStep 0 : Nat), .int .i64 i] H
  | [], i, hr, ha => by
    refine .fold ?_
    have hi : s.length ≤ i := by simpa using hr
    have hlt : ¬ ((i : Int) < (s.length : Int)) := by omega
    rw [List.take_of_length_le hi] at ha ⊢
    simp only [r_hostlerlaw21uNumber_p244, abin_i_add, abin_i_sub, abin_i_mul, abin_i_eql, abin_i_neq, abin_i_lss, abin_i_leq, abin_i_gtr, abin_i_geq, abin_s_eql, abin_s_neq, bnd_some, bnd_none, branch_bool, gwant_bool, gwant_nothing, aguard_some, wantE_some, pickV_bool, nilck_ptr, nilck_elem, aoff_ptr, aoff_elem, aun_not, aun_neg, lenStr_str, lenSl_nils, lenSl_sl, lenSl_osl, aextract_tup, ld1uelem, idxStr_str, amin2uint, amax2uint, rangeStr_str, sliceStr_from, sliceStr_to, List.getElem?_cons_zero, List.getElem?_cons_succ, Option.map_some, Option.bind_some, Int.toNat_natCast, Int.toNat_zero, Int.le_refl, Bool.not_true, Bool.not_false, Bool.not_not, Bool.false_eq_true, if_true, if_false, decide_eq_true_eq, beq_self_eq_true, bool_ft, bool_tf, decide_true, decide_false, reduceCtorEq, cmpNil, cmpRes, boxCells, AV.known, AV.cells, Nat.zero_add, and_self, and_true, true_and, ite_self, forall_const, not_true_eq_false, not_false_eq_true, hlt]
    exact hok ha
  | c :: r, i, hr, ha => by
    refine .fold ?_
    obtain ⟨hx, hlt, hr', ht⟩ := drop_at hr
    have h1 : ((i : Int) < (s.length : Int)) := by omega
    have h2 : (0 : Int) ≤ (i : Int) := by omega
    have ih := c_dNumber_loop s hs hno hok r (i + 1) hr'
    rw [ht, List.all_append, ha, List.foldl_append] at ih
    have hlow := numOf_lt (s.take i) 0 ha
    have hti : (s.take i).length ≤ 8 := by simp; omega
    have hp : (10 : Nat) ^ (s.take i).length ≤ 10 ^ 8 := Nat.pow_le_pow_right (by omega) hti
    generalize hN : (s.take i).foldl numStep 0 = N at ih hlow
    have hN8 : N < 100000000 := by simp only [Nat.zero_add, Nat.one_mul] at hlow; omega
    have hbad : isDig c = false → K (.tup [.int .i64 0, .bool false]) H := fun hc => hno (by rw [List.all_eq_false]; exact ⟨c, List.mem_of_getElem? hx, by simp [hc]⟩)
    by_cases p1 : (c.toNat : Int) < 48
    · simp only [r_hostlerlaw21uNumber_p244, abin_i_add, abin_i_sub, abin_i_mul, abin_i_eql, abin_i_neq, abin_i_lss, abin_i_leq, abin_i_gtr, abin_i_geq, abin_s_eql, abin_s_neq, bnd_some, bnd_none, branch_bool, gwant_bool, gwant_nothing, aguard_some, wantE_some, pickV_bool, nilck_ptr, nilck_elem, aoff_ptr, aoff_elem, aun_not, aun_neg, lenStr_str, lenSl_nils, lenSl_sl, lenSl_osl, aextract_tup, ld1uelem, idxStr_str, amin2uint, amax2uint, rangeStr_str, sliceStr_from, sliceStr_to, List.getElem?_cons_zero, List.getElem?_cons_succ, Option.map_some, Option.bind_some, Int.toNat_natCast, Int.toNat_zero, Int.le_refl, Bool.not_true, Bool.not_false, Bool.not_not, Bool.false_eq_true, if_true, if_false, decide_eq_true_eq, beq_self_eq_true, bool_ft, bool_tf, decide_true, decide_false, reduceCtorEq, cmpNil, cmpRes, boxCells, AV.known, AV.cells, Nat.zero_add, and_self, and_true, true_and, ite_self, forall_const, not_true_eq_false, not_false_eq_true, h1, h2, hx, p1]
      exact hbad (by simp [isDig]; omega)
    · by_cases p2 : (c.toNat : Int) > 57
      · simp only [r_hostlerlaw21uNumber_p244, abin_i_add, abin_i_sub, abin_i_mul, abin_i_eql, abin_i_neq, abin_i_lss, abin_i_leq, abin_i_gtr, abin_i_geq, abin_s_eql, abin_s_neq, bnd_some, bnd_none, branch_bool, gwant_bool, gwant_nothing, aguard_some, wantE_some, pickV_bool, nilck_ptr, nilck_elem, aoff_ptr, aoff_elem, aun_not, aun_neg, lenStr_str, lenSl_nils, lenSl_sl, lenSl_osl, aextract_tup, ld1uelem, idxStr_str, amin2uint, amax2uint, rangeStr_str, sliceStr_from, sliceStr_to, List.getElem?_cons_zero, List.getElem?_cons_succ, Option.map_some, Option.bind_some, Int.toNat_natCast, Int.toNat_zero, Int.le_refl, Bool.not_true, Bool.not_false, Bool.not_not, Bool.false_eq_true, if_true, if_false, decide_eq_true_eq, beq_self_eq_true, bool_ft, bool_tf, decide_true, decide_false, reduceCtorEq, cmpNil, cmpRes, boxCells, AV.known, AV.cells, Nat.zero_add, and_self, and_true, true_and, ite_self, forall_const, not_true_eq_false, not_false_eq_true, h1, h2, hx, p1, p2]
        exact hbad (by simp [isDig]; omega)
      · have hd : isDig c = true := by simp [isDig]; omega
        have w1 : IntKind.i64.wrap ((10 : Int) * N) = ((10 * N : Nat) : Int) := by rw [wrap_i64 (by omega) (by omega)]; omega
        have w2 : IntKind.u8.wrap ((c.toNat : Int) - 48) = ((c.toNat - 48 : Nat) : Int) := by
          have hc : c.toNat < 256 := c.toNat_lt
          simp [IntKind.wrap, IntKind.bits, IntKind.signed]; omega
        have w3 : convR (.int .u8) (.int .i64) (.int .u8 ((c.toNat - 48 : Nat) : Int)) = some (.int .i64 ((c.toNat - 48 : Nat) : Int)) := by
          have hc : c.toNat < 256 := c.toNat_lt
          simp only [convR, wrap_i64 (show (-9223372036854775808 : Int) ≤ ((c.toNat - 48 : Nat) : Int) by omega) (show ((c.toNat - 48 : Nat) : Int) ≤ 9223372036854775807 by omega)]
        have w4 : IntKind.i64.wrap (((10 * N : Nat) : Int) + ((c.toNat - 48 : Nat) : Int)) = ((10 * N + (c.toNat - 48) : Nat) : Int) := by
          have hc : c.toNat < 256 := c.toNat_lt
          rw [wrap_i64 (by omega) (by omega)]; omega
        simp only [r_hostlerlaw21uNumber_p244, abin_i_add, abin_i_sub, abin_i_mul, abin_i_eql, abin_i_neq, abin_i_lss, abin_i_leq, abin_i_gtr, abin_i_geq, abin_s_eql, abin_s_neq, bnd_some, bnd_none, branch_bool, gwant_bool, gwant_nothing, aguard_some, wantE_some, pickV_bool, nilck_ptr, nilck_elem, aoff_ptr, aoff_elem, aun_not, aun_neg, lenStr_str, lenSl_nils, lenSl_sl, lenSl_osl, aextract_tup, ld1uelem, idxStr_str, amin2uint, amax2uint, rangeStr_str, sliceStr_from, sliceStr_to, List.getElem?_cons_zero, List.getElem?_cons_succ, Option.map_some, Option.bind_some, Int.toNat_natCast, Int.toNat_zero, Int.le_refl, Bool.not_true, Bool.not_false, Bool.not_not, Bool.false_eq_true, if_true, if_false, decide_eq_true_eq, beq_self_eq_true, bool_ft, bool_tf, decide_true, decide_false, reduceCtorEq, cmpNil, cmpRes, boxCells, AV.known, AV.cells, Nat.zero_add, and_self, and_true, true_and, ite_self, forall_const, not_true_eq_false, not_false_eq_true, h1, h2, hx, p1, p2, w1, w2, w3, w4, i_succ (show i < 9223372036854775807 by omega)]
        exact ih (by simp [hd])
theorem c_dNumber (s : Bs) (h : K (.tup [.int .i64 ((number s).getD 0 : Nat), .bool (number s).isSome]) H) : r_hostlerlaw21uNumber [.str s] H K := by
  simp only [r_hostlerlaw21uNumber]
  cases s with
  | nil => simpa [number] using h
  | cons c t =>
    have e1 : ¬ (((c :: t).length : Int) < 1) := by simp only [List.length_cons]; omega
    by_cases h9 : ((c :: t).length : Int) > 9
    · have hn : number (c :: t) = none := by
        unfold number; rw [if_neg]; rintro ⟨_, h2, _⟩; omega
      rw [hn] at h
      simp only [abin_i_add, abin_i_sub, abin_i_mul, abin_i_eql, abin_i_neq, abin_i_lss, abin_i_leq, abin_i_gtr, abin_i_geq, abin_s_eql, abin_s_neq, bnd_some, bnd_none, branch_bool, gwant_bool, gwant_nothing, aguard_some, wantE_some, pickV_bool, nilck_ptr, nilck_elem, aoff_ptr, aoff_elem, aun_not, aun_neg, lenStr_str, lenSl_nils, lenSl_sl, lenSl_osl, aextract_tup, ld1uelem, idxStr_str, amin2uint, amax2uint, rangeStr_str, sliceStr_from, sliceStr_to, List.getElem?_cons_zero, List.getElem?_cons_succ, Option.map_some, Option.bind_some, Int.toNat_natCast, Int.toNat_zero, Int.le_refl, Bool.not_true, Bool.not_false, Bool.not_not, Bool.false_eq_true, if_true, if_false, decide_eq_true_eq, beq_self_eq_true, bool_ft, bool_tf, decide_true, decide_false, reduceCtorEq, cmpNil, cmpRes, boxCells, AV.known, AV.cells, Nat.zero_add, and_self, and_true, true_and, ite_self, forall_const, not_true_eq_false, not_false_eq_true, e1, h9]
      exact h
    · have h9' : (c :: t).length ≤ 9 := by omega
      by_cases h48 : (c.toNat : Int) = 48
      · have hc : c = 48 := UInt8.toNat_inj.1 (by have : (48 : UInt8).toNat = 48 := rfl
                                                  omega)
        subst hc
        have e48 : (((48 : UInt8).toNat : Int) == 48) = true := rfl
        by_cases hl : (((48 : UInt8) :: t).length : Int) > 1
        · have hn : number ((48 : UInt8) :: t) = none := by
            unfold number; rw [if_neg]; rintro ⟨_, _, _, h4 | h4⟩
            · exact h4 rfl
            · rw [h4] at hl; simp at hl
          rw [hn] at h
          simp only [abin_i_add, abin_i_sub, abin_i_mul, abin_i_eql, abin_i_neq, abin_i_lss, abin_i_leq, abin_i_gtr, abin_i_geq, abin_s_eql, abin_s_neq, bnd_some, bnd_none, branch_bool, gwant_bool, gwant_nothing, aguard_some, wantE_some, pickV_bool, nilck_ptr, nilck_elem, aoff_ptr, aoff_elem, aun_not, aun_neg, lenStr_str, lenSl_nils, lenSl_sl, lenSl_osl, aextract_tup, ld1uelem, idxStr_str, amin2uint, amax2uint, rangeStr_str, sliceStr_from, sliceStr_to, List.getElem?_cons_zero, List.getElem?_cons_succ, Option.map_some, Option.bind_some, Int.toNat_natCast, Int.toNat_zero, Int.le_refl, Bool.not_true, Bool.not_false, Bool.not_not, Bool.false_eq_true, if_true, if_false, decide_eq_true_eq, beq_self_eq_true, bool_ft, bool_tf, decide_true, decide_false, reduceCtorEq, cmpNil, cmpRes, boxCells, AV.known, AV.cells, Nat.zero_add, and_self, and_true, true_and, ite_self, forall_const, not_true_eq_false, not_false_eq_true, e1, h9, e48, hl]
          exact h
        · have ht : t = [] := by cases t with
            | nil => rfl
            | cons a t => simp only [List.length_cons] at hl; omega
          subst ht
          simp only [abin_i_add, abin_i_sub, abin_i_mul, abin_i_eql, abin_i_neq, abin_i_lss, abin_i_leq, abin_i_gtr, abin_i_geq, abin_s_eql, abin_s_neq, bnd_some, bnd_none, branch_bool, gwant_bool, gwant_nothing, aguard_some, wantE_some, pickV_bool, nilck_ptr, nilck_elem, aoff_ptr, aoff_elem, aun_not, aun_neg, lenStr_str, lenSl_nils, lenSl_sl, lenSl_osl, aextract_tup, ld1uelem, idxStr_str, amin2uint, amax2uint, rangeStr_str, sliceStr_from, sliceStr_to, List.getElem?_cons_zero, List.getElem?_cons_succ, Option.map_some, Option.bind_some, Int.toNat_natCast, Int.toNat_zero, Int.le_refl, Bool.not_true, Bool.not_false, Bool.not_not, Bool.false_eq_true, if_true, if_false, decide_eq_true_eq, beq_self_eq_true, bool_ft, bool_tf, decide_true, decide_false, reduceCtorEq, cmpNil, cmpRes, boxCells, AV.known, AV.cells, Nat.zero_add, and_self, and_true, true_and, ite_self, forall_const, not_true_eq_false, not_false_eq_true, e1, h9, e48, hl]
          refine c_dNumber_loop [48] (by decide) (fun hf => absurd hf (by decide)) (fun _ => ?_) _ 0 rfl rfl
          exact h
      · have e48 : ((c.toNat : Int) == 48) = false := by simpa using h48
        simp only [abin_i_add, abin_i_sub, abin_i_mul, abin_i_eql, abin_i_neq, abin_i_lss, abin_i_leq, abin_i_gtr, abin_i_geq, abin_s_eql, abin_s_neq, bnd_some, bnd_none, branch_bool, gwant_bool, gwant_nothing, aguard_some, wantE_some, pickV_bool, nilck_ptr, nilck_elem, aoff_ptr, aoff_elem, aun_not, aun_neg, lenStr_str, lenSl_nils, lenSl_sl, lenSl_osl, aextract_tup, ld1uelem, idxStr_str, amin2uint, amax2uint, rangeStr_str, sliceStr_from, sliceStr_to, List.getElem?_cons_zero, List.getElem?_cons_succ, Option.map_some, Option.bind_some, Int.toNat_natCast, Int.toNat_zero, Int.le_refl, Bool.not_true, Bool.not_false, Bool.not_not, Bool.false_eq_true, if_true, if_false, decide_eq_true_eq, beq_self_eq_true, bool_ft, bool_tf, decide_true, decide_false, reduceCtorEq, cmpNil, cmpRes, boxCells, AV.known, AV.cells, Nat.zero_add, and_self, and_true, true_and, ite_self, forall_const, not_true_eq_false, not_false_eq_true, e1, h9, e48]
        have hh : (c :: t).head? ≠ some 48 := by
          simp only [List.head?_cons, ne_eq, Option.some.injEq]
          intro e; subst e; exact h48 rfl
        refine c_dNumber_loop (c :: t) h9' (fun hf => ?_) (fun hd => ?_) _ 0 rfl rfl
        · rw [number_none_dig hf] at h; exact h
        · have hn : number (c :: t) = some (numOf (c :: t)) := by
            unfold number; rw [if_pos ⟨by simp, h9', hd, .inl hh⟩]
          rw [hn] at h; exact h
end
end Go.Va

/-
  Contracts: the document's own reading of words and lines.
-/
set_option linter.unusedVariables false
set_option linter.unusedSimpArgs false
set_option maxRecDepth 100000
namespace Go.Va
theorem splitB_cons_ne (c d : UInt8) (s : Bs) (h : d ≠ c) : ∃ w ws, splitB c s = w :: ws ∧ splitB c (d :: s) = (d :: w) :: ws := by
  cases hs : splitB c s with
  | nil => exact absurd hs (splitB_ne c s)
  | cons w ws => exact ⟨w, ws, rfl, by simp only [splitB, h, if_false, hs]⟩
theorem splitB_sep (c : UInt8) : ∀ (a b : Bs), c ∉ a → splitB c (a ++ c :: b) = a :: splitB c b
  | [], b, _ => by simp [splitB]
  | d :: a, b, h => by
    have hd : d ≠ c := fun e => h (by simp [e])
    have ih := splitB_sep c a b (fun hm => h (List.mem_cons_of_mem _ hm))
    show splitB c (d :: (a ++ c :: b)) = _
    simp only [splitB, hd, if_false, ih]
section
variable {K : AV → AH → Prop}
theorem c_Words_loop (s : Bs) (hs : s.length ≤ 1000000000) {H0 : AH} :
    ∀ (r : Bs) (i : Nat) (w : Bs) (out : List Bs) (v : AV) (H : AH), s.drop i = r → i ≤ s.length → 32 ∉ w → w.length ≤ i → out.length ≤ i → IsGrow 1 .str H0 v out H → Ext H0 H →
      (∀ v' H', Ext H0 H' → IsSl 1 .str v' (out ++ (splitB 32 (w ++ r)).filter fun w => !(w == [])) → K v' H') → LoopP (r_hostlerlaw21uWords_p244 K) [.str s, v, .str w, .int .i64 i] H
  | [], i, w, out, v, H, hr, hil, hw, hwl, hol, hg, hx, h => by
    refine .fold ?_
    have hi : s.length ≤ i := by simpa using hr
    obtain rfl : i = s.length := by omega
    have hlt : ¬ ((s.length : Int) < (s.length : Int)) := by omega
    have hle : ((s.length : Int) ≤ (s.length : Int)) := by omega
    have hend : ∀ (v' : AV) (H' : AH), K v' H' → LoopP (r_hostlerlaw21uWords_p244 K) [.str s, v', .str [], .int .i64 ((s.length + 1 : Nat) : Int)] H' := fun v' H' hk => by
      refine .fold ?_
      have : ¬ (((s.length + 1 : Nat) : Int) ≤ (s.length : Int)) := by omega
      simp only [r_hostlerlaw21uWords_p244, abin_i_add, abin_i_sub, abin_i_mul, abin_i_eql, abin_i_neq, abin_i_lss, abin_i_leq, abin_i_gtr, abin_i_geq, abin_s_eql, abin_s_neq, bnd_some, bnd_none, branch_bool, gwant_bool, gwant_nothing, aguard_some, wantE_some, pickV_bool, nilck_ptr, nilck_elem, aoff_ptr, aoff_elem, aun_not, aun_neg, lenStr_str, lenSl_nils, lenSl_sl, lenSl_osl, aextract_tup, ld1uelem, idxStr_str, amin2uint, amax2uint, rangeStr_str, sliceStr_from, sliceStr_to, List.getElem?_cons_zero, List.getElem?_cons_succ, Option.map_some, Option.bind_some, Int.toNat_natCast, Int.toNat_zero, Int.le_refl, Bool.not_true, Bool.not_false, Bool.not_not, Bool.false_eq_true, if_true, if_false, decide_eq_true_eq, beq_self_eq_true, bool_ft, bool_tf, decide_true, decide_false, reduceCtorEq, cmpNil, cmpRes, boxCells, AV.known, AV.cells, Nat.zero_add, and_self, and_true, true_and, ite_self, forall_const, not_true_eq_false, not_false_eq_true, this]
      exact hk
    simp only [r_hostlerlaw21uWords_p244, abin_i_add, abin_i_sub, abin_i_mul, abin_i_eql, abin_i_neq, abin_i_lss, abin_i_leq, abin_i_gtr, abin_i_geq, abin_s_eql, abin_s_neq, bnd_some, bnd_none, branch_bool, gwant_bool, gwant_nothing, aguard_some, wantE_some, pickV_bool, nilck_ptr, nilck_elem, aoff_ptr, aoff_elem, aun_not, aun_neg, lenStr_str, lenSl_nils, lenSl_sl, lenSl_osl, aextract_tup, ld1uelem, idxStr_str, amin2uint, amax2uint, rangeStr_str, sliceStr_from, sliceStr_to, List.getElem?_cons_zero, List.getElem?_cons_succ, Option.map_some, Option.bind_some, Int.toNat_natCast, Int.toNat_zero, Int.le_refl, Bool.not_true, Bool.not_false, Bool.not_not, Bool.false_eq_true, if_true, if_false, decide_eq_true_eq, beq_self_eq_true, bool_ft, bool_tf, decide_true, decide_false, reduceCtorEq, cmpNil, cmpRes, boxCells, AV.known, AV.cells, Nat.zero_add, and_self, and_true, true_and, ite_self, forall_const, not_true_eq_false, not_false_eq_true, hlt, hle, r_hostlerlaw21uWords_p7827, r_hostlerlaw21uWords_p979, i_succ (show s.length < 9223372036854775807 by omega)]
    rw [List.append_nil, splitB_none 32 w hw] at h
    cases hwe : (w == []) with
    | true =>
      simp only [hwe, Bool.not_true, List.filter_cons_of_neg, List.filter_nil, List.append_nil, Bool.false_eq_true, not_false_eq_true] at h
      simp only [abin_i_add, abin_i_sub, abin_i_mul, abin_i_eql, abin_i_neq, abin_i_lss, abin_i_leq, abin_i_gtr, abin_i_geq, abin_s_eql, abin_s_neq, bnd_some, bnd_none, branch_bool, gwant_bool, gwant_nothing, aguard_some, wantE_some, pickV_bool, nilck_ptr, nilck_elem, aoff_ptr, aoff_elem, aun_not, aun_neg, lenStr_str, lenSl_nils, lenSl_sl, lenSl_osl, aextract_tup, ld1uelem, idxStr_str, amin2uint, amax2uint, rangeStr_str, sliceStr_from, sliceStr_to, List.getElem?_cons_zero, List.getElem?_cons_succ, Option.map_some, Option.bind_some, Int.toNat_natCast, Int.toNat_zero, Int.le_refl, Bool.not_true, Bool.not_false, Bool.not_not, Bool.false_eq_true, if_true, if_false, decide_eq_true_eq, beq_self_eq_true, bool_ft, bool_tf, decide_true, decide_false, reduceCtorEq, cmpNil, cmpRes, boxCells, AV.known, AV.cells, Nat.zero_add, and_self, and_true, true_and, ite_self, forall_const, not_true_eq_false, not_false_eq_true]
      exact hend v H (h v H hx hg.isSl)
    | false =>
      simp only [List.filter_cons, hwe, Bool.not_false, if_true, List.filter_nil] at h
      have hln : [w].length = 1 := rfl
      simp only [abin_i_add, abin_i_sub, abin_i_mul, abin_i_eql, abin_i_neq, abin_i_lss, abin_i_leq, abin_i_gtr, abin_i_geq, abin_s_eql, abin_s_neq, bnd_some, bnd_none, branch_bool, gwant_bool, gwant_nothing, aguard_some, wantE_some, pickV_bool, nilck_ptr, nilck_elem, aoff_ptr, aoff_elem, aun_not, aun_neg, lenStr_str, lenSl_nils, lenSl_sl, lenSl_osl, aextract_tup, ld1uelem, idxStr_str, amin2uint, amax2uint, rangeStr_str, sliceStr_from, sliceStr_to, List.getElem?_cons_zero, List.getElem?_cons_succ, Option.map_some, Option.bind_some, Int.toNat_natCast, Int.toNat_zero, Int.le_refl, Bool.not_true, Bool.not_false, Bool.not_not, Bool.false_eq_true, if_true, if_false, decide_eq_true_eq, beq_self_eq_true, bool_ft, bool_tf, decide_true, decide_false, reduceCtorEq, cmpNil, cmpRes, boxCells, AV.known, AV.cells, Nat.zero_add, and_self, and_true, true_and, ite_self, forall_const, not_true_eq_false, not_false_eq_true, buildSl_one 1 (.str w) rfl rfl]
      refine hg.app (xs := [w]) (by_ := 16) hx (.inr ⟨_, rfl⟩) (by omega) (by omega) rfl fun v' H' hg' hx' _ _ => ?_
      exact hend v' H' (h v' H' hx' hg'.isSl)
  | c :: r, i, w, out, v, H, hr, hil, hw, hwl, hol, hg, hx, h => by
    refine .fold ?_
    obtain ⟨hxx, hlt, hr', ht⟩ := drop_at hr
    have h1 : ((i : Int) < (s.length : Int)) := by omega
    have h1' : ((i : Int) ≤ (s.length : Int)) := by omega
    have h2 : (0 : Int) ≤ (i : Int) := by omega
    by_cases hc : c = 32
    · subst hc
      have e32 : ((((32 : UInt8).toNat : Int)) != 32) = false := rfl
      simp only [r_hostlerlaw21uWords_p244, abin_i_add, abin_i_sub, abin_i_mul, abin_i_eql, abin_i_neq, abin_i_lss, abin_i_leq, abin_i_gtr, abin_i_geq, abin_s_eql, abin_s_neq, bnd_some, bnd_none, branch_bool, gwant_bool, gwant_nothing, aguard_some, wantE_some, pickV_bool, nilck_ptr, nilck_elem, aoff_ptr, aoff_elem, aun_not, aun_neg, lenStr_str, lenSl_nils, lenSl_sl, lenSl_osl, aextract_tup, ld1uelem, idxStr_str, amin2uint, amax2uint, rangeStr_str, sliceStr_from, sliceStr_to, List.getElem?_cons_zero, List.getElem?_cons_succ, Option.map_some, Option.bind_some, Int.toNat_natCast, Int.toNat_zero, Int.le_refl, Bool.not_true, Bool.not_false, Bool.not_not, Bool.false_eq_true, if_true, if_false, decide_eq_true_eq, beq_self_eq_true, bool_ft, bool_tf, decide_true, decide_false, reduceCtorEq, cmpNil, cmpRes, boxCells, AV.known, AV.cells, Nat.zero_add, and_self, and_true, true_and, ite_self, forall_const, not_true_eq_false, not_false_eq_true, h1, h1', h2, hxx, e32, r_hostlerlaw21uWords_p7827, r_hostlerlaw21uWords_p979, i_succ (show i < 9223372036854775807 by omega)]
      rw [splitB_sep 32 w r hw] at h
      cases hwe : (w == []) with
      | true =>
        simp only [List.filter_cons, hwe, Bool.not_true, Bool.false_eq_true, if_false] at h
        simp only [abin_i_add, abin_i_sub, abin_i_mul, abin_i_eql, abin_i_neq, abin_i_lss, abin_i_leq, abin_i_gtr, abin_i_geq, abin_s_eql, abin_s_neq, bnd_some, bnd_none, branch_bool, gwant_bool, gwant_nothing, aguard_some, wantE_some, pickV_bool, nilck_ptr, nilck_elem, aoff_ptr, aoff_elem, aun_not, aun_neg, lenStr_str, lenSl_nils, lenSl_sl, lenSl_osl, aextract_tup, ld1uelem, idxStr_str, amin2uint, amax2uint, rangeStr_str, sliceStr_from, sliceStr_to, List.getElem?_cons_zero, List.getElem?_cons_succ, Option.map_some, Option.bind_some, Int.toNat_natCast, Int.toNat_zero, Int.le_refl, Bool.not_true, Bool.not_false, Bool.not_not, Bool.false_eq_true, if_true, if_false, decide_eq_true_eq, beq_self_eq_true, bool_ft, bool_tf, decide_true, decide_false, reduceCtorEq, cmpNil, cmpRes, boxCells, AV.known, AV.cells, Nat.zero_add, and_self, and_true, true_and, ite_self, forall_const, not_true_eq_false, not_false_eq_true]
        exact c_Words_loop s hs r (i + 1) [] out v H hr' (by omega) (by simp) (by simp) (by omega) hg hx h
      | false =>
        simp only [List.filter_cons, hwe, Bool.not_false, if_true] at h
        have hln : [w].length = 1 := rfl
        simp only [abin_i_add, abin_i_sub, abin_i_mul, abin_i_eql, abin_i_neq, abin_i_lss, abin_i_leq, abin_i_gtr, abin_i_geq, abin_s_eql, abin_s_neq, bnd_some, bnd_none, branch_bool, gwant_bool, gwant_nothing, aguard_some, wantE_some, pickV_bool, nilck_ptr, nilck_elem, aoff_ptr, aoff_elem, aun_not, aun_neg, lenStr_str, lenSl_nils, lenSl_sl, lenSl_osl, aextract_tup, ld1uelem, idxStr_str, amin2uint, amax2uint, rangeStr_str, sliceStr_from, sliceStr_to, List.getElem?_cons_zero, List.getElem?_cons_succ, Option.map_some, Option.bind_some, Int.toNat_natCast, Int.toNat_zero, Int.le_refl, Bool.not_true, Bool.not_false, Bool.not_not, Bool.false_eq_true, if_true, if_false, decide_eq_true_eq, beq_self_eq_true, bool_ft, bool_tf, decide_true, decide_false, reduceCtorEq, cmpNil, cmpRes, boxCells, AV.known, AV.cells, Nat.zero_add, and_self, and_true, true_and, ite_self, forall_const, not_true_eq_false, not_false_eq_true, buildSl_one 1 (.str w) rfl rfl]
        refine hg.app (xs := [w]) (by_ := 16) hx (.inr ⟨_, rfl⟩) (by omega) (by omega) rfl fun v' H' hg' hx' _ _ => ?_
        exact c_Words_loop s hs r (i + 1) [] (out ++ [w]) v' H' hr' (by omega) (by simp) (by simp) (by simp; omega) hg' hx' (by simpa using h)
    · have ec : ((c.toNat : Int) != 32) = true := by
        simp only [bne_iff_ne, ne_eq]; intro e
        exact hc (UInt8.toNat_inj.1 (by have : (32 : UInt8).toNat = 32 := rfl
                                        omega))
      have esl : sliceStr (.str s) (some (.int .i64 i)) (some (.int .i64 ((i + 1 : Nat) : Int))) none = some (.str [c]) := by
        have e1 : ((s.take (i + 1)).drop i) = [c] := by rw [ht, List.drop_append_of_le_length (by simp; omega)]; simp
        have a1 : abound s.length s.length (some (.int .i64 ((i + 1 : Nat) : Int))) = some (i + 1) := by simp [abound]; omega
        have a2 : abound 0 (i + 1) (some (.int .i64 (i : Int))) = some i := by simp [abound]; omega
        simp only [sliceStr, a1, a2, Option.bind_some, Option.map_some, e1]
      have hwl2 : w.length + [c].length ≤ 9223372036854775807 := by simp only [List.length_cons, List.length_nil]; omega
      simp only [r_hostlerlaw21uWords_p244, abin_i_add, abin_i_sub, abin_i_mul, abin_i_eql, abin_i_neq, abin_i_lss, abin_i_leq, abin_i_gtr, abin_i_geq, abin_s_eql, abin_s_neq, bnd_some, bnd_none, branch_bool, gwant_bool, gwant_nothing, aguard_some, wantE_some, pickV_bool, nilck_ptr, nilck_elem, aoff_ptr, aoff_elem, aun_not, aun_neg, lenStr_str, lenSl_nils, lenSl_sl, lenSl_osl, aextract_tup, ld1uelem, idxStr_str, amin2uint, amax2uint, rangeStr_str, sliceStr_from, sliceStr_to, List.getElem?_cons_zero, List.getElem?_cons_succ, Option.map_some, Option.bind_some, Int.toNat_natCast, Int.toNat_zero, Int.le_refl, Bool.not_true, Bool.not_false, Bool.not_not, Bool.false_eq_true, if_true, if_false, decide_eq_true_eq, beq_self_eq_true, bool_ft, bool_tf, decide_true, decide_false, reduceCtorEq, cmpNil, cmpRes, boxCells, AV.known, AV.cells, Nat.zero_add, and_self, and_true, true_and, ite_self, forall_const, not_true_eq_false, not_false_eq_true, h1, h1', h2, hxx, ec, r_hostlerlaw21uWords_p979, i_succ (show i < 9223372036854775807 by omega), esl, abin_s_add, hwl2]
      exact c_Words_loop s hs r (i + 1) (w ++ [c]) out v H hr' (by omega) (by simp [hw]; exact fun e => hc e.symm) (by simp; omega) (by omega) hg hx (by simpa using h)
theorem c_Words (s : Bs) (hs : s.length ≤ 1000000000) {H : AH} (h : ∀ v' H', Ext H H' → IsSl 1 .str v' (wordsOf s) → K v' H') : r_hostlerlaw21uWords [.str s] H K := by
  simp only [r_hostlerlaw21uWords]
  exact c_Words_loop s hs s 0 [] [] .nils H rfl (by omega) (by simp) (by simp) (by simp) (.inl ⟨rfl, rfl⟩) (Ext.refl H) (by simpa [wordsOf] using h)
-- lines
def LinesOf (s : Bs) (L : List Bs) : Prop := splitB 10 s = L ∨ splitB 10 s = L ++ [[]]
theorem c_lines_exit (s : Bs) (hs : s.length ≤ 1000000000) {H0 : AH} (i : Nat) (hi : i ≤ s.length) (hend : s[i]? = none ∨ s[i]? = some 10) (out : List Bs) (v : AV) (H : AH) (hol : out.length ≤ 2000000000) (hg : IsGrow 1 .str H0 v out H) (hx : Ext H0 H) {Y : List AV → AH → Prop}
    (h : ∀ v' H', Ext H0 H' → IsGrow 1 .str H0 v' (out ++ [s.take i]) H' → Y [.str (s.drop (i + 1)), v'] H') : LoopP (r_hostlerlaw21ulines_p3624 K Y) [.str s, v, .int .i64 i] H := by
  refine .fold ?_
  have a1 : abound s.length s.length (some (.int .i64 ((i : Nat) : Int))) = some i := by simp [abound]; omega
  have a2 : abound 0 i none = some 0 := rfl
  have s1 : sliceStr (.str s) none (some (.int .i64 ((i : Nat) : Int))) none = some (.str (s.take i)) := by
    simp only [sliceStr, a1, a2, Option.bind_some, Option.map_some, List.drop_zero]
  have em : (if (s.length : Int) < ((i + 1 : Nat) : Int) then (s.length : Int) else ((i + 1 : Nat) : Int)) = ((min (i + 1) s.length : Nat) : Int) := by split <;> omega
  have m1 : (0 : Int) ≤ ((min (i + 1) s.length : Nat) : Int) := by omega
  have m2 : ((min (i + 1) s.length : Nat) : Int) ≤ (s.length : Int) := by omega
  have s2 : s.drop (min (i + 1) s.length) = s.drop (i + 1) := by
    by_cases hh : i + 1 ≤ s.length
    · rw [Nat.min_eq_left hh]
    · rw [Nat.min_eq_right (by omega), List.drop_eq_nil_of_le (Nat.le_refl _), List.drop_eq_nil_of_le (by omega)]
  have hln : [s.take i].length = 1 := rfl
  have h2 : (0 : Int) ≤ (i : Int) := by omega
  rcases hend with he | he
  · have hge : s.length ≤ i := by simpa using he
    have hlt : ¬ ((i : Int) < (s.length : Int)) := by omega
    simp only [r_hostlerlaw21ulines_p3624, abin_i_add, abin_i_sub, abin_i_mul, abin_i_eql, abin_i_neq, abin_i_lss, abin_i_leq, abin_i_gtr, abin_i_geq, abin_s_eql, abin_s_neq, bnd_some, bnd_none, branch_bool, gwant_bool, gwant_nothing, aguard_some, wantE_some, pickV_bool, nilck_ptr, nilck_elem, aoff_ptr, aoff_elem, aun_not, aun_neg, lenStr_str, lenSl_nils, lenSl_sl, lenSl_osl, aextract_tup, ld1uelem, idxStr_str, amin2uint, amax2uint, rangeStr_str, sliceStr_from, sliceStr_to, List.getElem?_cons_zero, List.getElem?_cons_succ, Option.map_some, Option.bind_some, Int.toNat_natCast, Int.toNat_zero, Int.le_refl, Bool.not_true, Bool.not_false, Bool.not_not, Bool.false_eq_true, if_true, if_false, decide_eq_true_eq, beq_self_eq_true, bool_ft, bool_tf, decide_true, decide_false, reduceCtorEq, cmpNil, cmpRes, boxCells, AV.known, AV.cells, Nat.zero_add, and_self, and_true, true_and, ite_self, forall_const, not_true_eq_false, not_false_eq_true, hlt, s1, buildSl_one 1 (.str (s.take i)) rfl rfl]
    refine hg.app (xs := [s.take i]) (by_ := 16) hx (.inr ⟨_, rfl⟩) (by omega) (by omega) rfl fun v' H' hg' hx' _ _ => ?_
    simp only [abin_i_add, abin_i_sub, abin_i_mul, abin_i_eql, abin_i_neq, abin_i_lss, abin_i_leq, abin_i_gtr, abin_i_geq, abin_s_eql, abin_s_neq, bnd_some, bnd_none, branch_bool, gwant_bool, gwant_nothing, aguard_some, wantE_some, pickV_bool, nilck_ptr, nilck_elem, aoff_ptr, aoff_elem, aun_not, aun_neg, lenStr_str, lenSl_nils, lenSl_sl, lenSl_osl, aextract_tup, ld1uelem, idxStr_str, amin2uint, amax2uint, rangeStr_str, sliceStr_from, sliceStr_to, List.getElem?_cons_zero, List.getElem?_cons_succ, Option.map_some, Option.bind_some, Int.toNat_natCast, Int.toNat_zero, Int.le_refl, Bool.not_true, Bool.not_false, Bool.not_not, Bool.false_eq_true, if_true, if_false, decide_eq_true_eq, beq_self_eq_true, bool_ft, bool_tf, decide_true, decide_false, reduceCtorEq, cmpNil, cmpRes, boxCells, AV.known, AV.cells, Nat.zero_add, and_self, and_true, true_and, ite_self, forall_const, not_true_eq_false, not_false_eq_true, i_succ (show i < 9223372036854775807 by omega), em, m1, m2, s2]
    exact h v' H' hx' hg'
  · have hl : i < s.length := (List.getElem?_eq_some_iff.1 he).1
    have hlt : ((i : Int) < (s.length : Int)) := by omega
    have e10 : ((((10 : UInt8).toNat : Int)) != 10) = false := rfl
    simp only [r_hostlerlaw21ulines_p3624, abin_i_add, abin_i_sub, abin_i_mul, abin_i_eql, abin_i_neq, abin_i_lss, abin_i_leq, abin_i_gtr, abin_i_geq, abin_s_eql, abin_s_neq, bnd_some, bnd_none, branch_bool, gwant_bool, gwant_nothing, aguard_some, wantE_some, pickV_bool, nilck_ptr, nilck_elem, aoff_ptr, aoff_elem, aun_not, aun_neg, lenStr_str, lenSl_nils, lenSl_sl, lenSl_osl, aextract_tup, ld1uelem, idxStr_str, amin2uint, amax2uint, rangeStr_str, sliceStr_from, sliceStr_to, List.getElem?_cons_zero, List.getElem?_cons_succ, Option.map_some, Option.bind_some, Int.toNat_natCast, Int.toNat_zero, Int.le_refl, Bool.not_true, Bool.not_false, Bool.not_not, Bool.false_eq_true, if_true, if_false, decide_eq_true_eq, beq_self_eq_true, bool_ft, bool_tf, decide_true, decide_false, reduceCtorEq, cmpNil, cmpRes, boxCells, AV.known, AV.cells, Nat.zero_add, and_self, and_true, true_and, ite_self, forall_const, not_true_eq_false, not_false_eq_true, hlt, h2, he, e10, s1, buildSl_one 1 (.str (s.take i)) rfl rfl]
    refine hg.app (xs := [s.take i]) (by_ := 16) hx (.inr ⟨_, rfl⟩) (by omega) (by omega) rfl fun v' H' hg' hx' _ _ => ?_
    simp only [abin_i_add, abin_i_sub, abin_i_mul, abin_i_eql, abin_i_neq, abin_i_lss, abin_i_leq, abin_i_gtr, abin_i_geq, abin_s_eql, abin_s_neq, bnd_some, bnd_none, branch_bool, gwant_bool, gwant_nothing, aguard_some, wantE_some, pickV_bool, nilck_ptr, nilck_elem, aoff_ptr, aoff_elem, aun_not, aun_neg, lenStr_str, lenSl_nils, lenSl_sl, lenSl_osl, aextract_tup, ld1uelem, idxStr_str, amin2uint, amax2uint, rangeStr_str, sliceStr_from, sliceStr_to, List.getElem?_cons_zero, List.getElem?_cons_succ, Option.map_some, Option.bind_some, Int.toNat_natCast, Int.toNat_zero, Int.le_refl, Bool.not_true, Bool.not_false, Bool.not_not, Bool.false_eq_true, if_true, if_false, decide_eq_true_eq, beq_self_eq_true, bool_ft, bool_tf, decide_true, decide_false, reduceCtorEq, cmpNil, cmpRes, boxCells, AV.known, AV.cells, Nat.zero_add, and_self, and_true, true_and, ite_self, forall_const, not_true_eq_false, not_false_eq_true, i_succ (show i < 9223372036854775807 by omega), em, m1, m2, s2]
    exact h v' H' hx' hg'
theorem c_lines_find (s : Bs) (hs : s.length ≤ 1000000000) {v : AV} {H : AH} {Y : List AV → AH → Prop}
    (h : ∀ i, i ≤ s.length → (s[i]? = none ∨ s[i]? = some 10) → 10 ∉ s.take i → LoopP (r_hostlerlaw21ulines_p3624 K Y) [.str s, v, .int .i64 i] H) :
    ∀ (r : Bs) (i : Nat), s.drop i = r → i ≤ s.length → 10 ∉ s.take i → LoopP (r_hostlerlaw21ulines_p3624 K Y) [.str s, v, .int .i64 i] H
  | [], i, hr, hil, hn => h i hil (.inl (by have : s.length ≤ i := by simpa using hr
                                            simpa using this)) hn
  | c :: r, i, hr, hil, hn => by
    obtain ⟨hx, hlt, hr', ht⟩ := drop_at hr
    by_cases hc : c = 10
    · subst hc; exact h i hil (.inr hx) hn
    · refine .fold ?_
      have h1 : ((i : Int) < (s.length : Int)) := by omega
      have h2 : (0 : Int) ≤ (i : Int) := by omega
      have ec : ((c.toNat : Int) != 10) = true := by
        simp only [bne_iff_ne, ne_eq]; intro e
        exact hc (UInt8.toNat_inj.1 (by have : (10 : UInt8).toNat = 10 := rfl
                                        omega))
      simp only [r_hostlerlaw21ulines_p3624, abin_i_add, abin_i_sub, abin_i_mul, abin_i_eql, abin_i_neq, abin_i_lss, abin_i_leq, abin_i_gtr, abin_i_geq, abin_s_eql, abin_s_neq, bnd_some, bnd_none, branch_bool, gwant_bool, gwant_nothing, aguard_some, wantE_some, pickV_bool, nilck_ptr, nilck_elem, aoff_ptr, aoff_elem, aun_not, aun_neg, lenStr_str, lenSl_nils, lenSl_sl, lenSl_osl, aextract_tup, ld1uelem, idxStr_str, amin2uint, amax2uint, rangeStr_str, sliceStr_from, sliceStr_to, List.getElem?_cons_zero, List.getElem?_cons_succ, Option.map_some, Option.bind_some, Int.toNat_natCast, Int.toNat_zero, Int.le_refl, Bool.not_true, Bool.not_false, Bool.not_not, Bool.false_eq_true, if_true, if_false, decide_eq_true_eq, beq_self_eq_true, bool_ft, bool_tf, decide_true, decide_false, reduceCtorEq, cmpNil, cmpRes, boxCells, AV.known, AV.cells, Nat.zero_add, and_self, and_true, true_and, ite_self, forall_const, not_true_eq_false, not_false_eq_true, h1, h2, hx, ec, i_succ (show i < 9223372036854775807 by omega)]
      exact c_lines_find s hs h r (i + 1) hr' (by omega) (by rw [ht]; simp [hn]; exact fun e => hc e.symm)
theorem c_lines_loop {H0 : AH} : ∀ (n : Nat) (s : Bs) (out : List Bs) (v : AV) (H : AH), s.length ≤ n → s.length ≤ 1000000000 → out.length + s.length ≤ 1000000000 → IsGrow 1 .str H0 v out H → Ext H0 H →
    (∀ v' H' L, Ext H0 H' → (s = [] → L = []) → LinesOf s L → (∀ l ∈ L, l.length ≤ s.length) → IsSl 1 .str v' (out ++ L) → K v' H') → LoopP (r_hostlerlaw21ulines_p56 K) [.str s, v] H
  | _, [], out, v, H, hn, hs, ho, hg, hx, h => by
    refine .fold ?_
    have := h v H [] hx (fun _ => rfl) (.inr rfl) (by simp) (by simpa using hg.isSl)
    simpa [r_hostlerlaw21ulines_p56] using this
  | 0, c :: s, out, v, H, hn, hs, ho, hg, hx, h => by simp at hn
  | n + 1, c :: s, out, v, H, hn, hs, ho, hg, hx, h => by
    refine .fold ?_
    have e1 : ((c :: s).length : Int) > 0 := by simp only [List.length_cons]; omega
    simp only [r_hostlerlaw21ulines_p56, abin_i_add, abin_i_sub, abin_i_mul, abin_i_eql, abin_i_neq, abin_i_lss, abin_i_leq, abin_i_gtr, abin_i_geq, abin_s_eql, abin_s_neq, bnd_some, bnd_none, branch_bool, gwant_bool, gwant_nothing, aguard_some, wantE_some, pickV_bool, nilck_ptr, nilck_elem, aoff_ptr, aoff_elem, aun_not, aun_neg, lenStr_str, lenSl_nils, lenSl_sl, lenSl_osl, aextract_tup, ld1uelem, idxStr_str, amin2uint, amax2uint, rangeStr_str, sliceStr_from, sliceStr_to, List.getElem?_cons_zero, List.getElem?_cons_succ, Option.map_some, Option.bind_some, Int.toNat_natCast, Int.toNat_zero, Int.le_refl, Bool.not_true, Bool.not_false, Bool.not_not, Bool.false_eq_true, if_true, if_false, decide_eq_true_eq, beq_self_eq_true, bool_ft, bool_tf, decide_true, decide_false, reduceCtorEq, cmpNil, cmpRes, boxCells, AV.known, AV.cells, Nat.zero_add, and_self, and_true, true_and, ite_self, forall_const, not_true_eq_false, not_false_eq_true, e1]
    generalize hS : c :: s = S at *
    refine c_lines_find S hs (fun i hi hend hno => ?_) S 0 rfl (by omega) (by simp)
    refine c_lines_exit S hs i hi hend out v H (by omega) hg hx fun v' H' hx' hg' => ?_
    rcases hend with he | he
    · have hge : S.length ≤ i := by simpa using he
      rw [List.take_of_length_le hge] at hno hg'
      rw [List.drop_eq_nil_of_le (by omega)]
      have hS1 : 1 ≤ S.length := by rw [← hS]; simp
      refine c_lines_loop n [] (out ++ [S]) v' H' (by simp) (by simp) (by simp; omega) hg' hx' fun v'' H'' L hx'' hL _ _ hsl => ?_
      rw [hL rfl, List.append_nil] at hsl
      exact h v'' H'' [S] hx'' (fun e => by rw [← hS] at e; cases e) (.inl (splitB_none 10 S hno)) (by simp) hsl
    · have hlt : i < S.length := (List.getElem?_eq_some_iff.1 he).1
      have hsp : S = S.take i ++ 10 :: S.drop (i + 1) := by
        have h3 := List.drop_eq_getElem_cons hlt
        rw [(List.getElem?_eq_some_iff.1 he).2] at h3
        rw [← h3, List.take_append_drop]
      have hdl : (S.drop (i + 1)).length = S.length - (i + 1) := List.length_drop
      have htl : (S.take i).length ≤ S.length := by simp; omega
      have hspl : splitB 10 S = S.take i :: splitB 10 (S.drop (i + 1)) := by
        conv => lhs; rw [hsp]
        exact splitB_sep 10 _ _ hno
      refine c_lines_loop n (S.drop (i + 1)) (out ++ [S.take i]) v' H' (by omega) (by omega) (by simp only [List.length_append, List.length_cons, List.length_nil]; omega) hg' hx' fun v'' H'' L hx'' hL hlo hll hsl => ?_
      refine h v'' H'' (S.take i :: L) hx'' (fun e => by rw [← hS] at e; cases e) ?_ (fun l hl => ?_) (by simpa using hsl)
      · rcases hlo with h4 | h4
        · left; rw [hspl, h4]
        · right; rw [hspl, h4]; rfl
      · rcases List.mem_cons.1 hl with rfl | hl
        · exact htl
        · have := hll l hl; omega
theorem c_lines (s : Bs) (hs : s.length ≤ 1000000000) {H : AH} (h : ∀ v' H' L, Ext H H' → LinesOf s L → (∀ l ∈ L, l.length ≤ s.length) → IsSl 1 .str v' L → K v' H') : r_hostlerlaw21ulines [.str s] H K := by
  simp only [r_hostlerlaw21ulines]
  exact c_lines_loop s.length s [] .nils H (Nat.le_refl _) hs (by simpa using hs) (.inl ⟨rfl, rfl⟩) (Ext.refl H) fun v' H' L hx _ hl hm hsl => h v' H' L hx hl hm (by simpa using hsl)
end
end Go.Va

/-
  Plain law: the document's reading of a line's words is the program's.
-/
set_option linter.unusedVariables false
set_option linter.unusedSimpArgs false
set_option maxRecDepth 100000
namespace Go.Va
def itemsT : List Bs → Option (List Item)
  | [] => some []
  | [_] => none
  | [_, _] => none
  | t :: a :: b :: r => (number a).bind fun x => (number b).bind fun y => (itemsT r).map (⟨t, x, y⟩ :: ·)
def itemsD (needs : Bool) (ws : List Bs) : Option (List Item) := if needs then itemsT ws else some (ws.map fun t => ⟨t, 0, 0⟩)
def trunc (i : Item) : Item := ⟨i.t, (needOf i.a i.b).1, (needOf i.a i.b).2⟩
theorem itemsW_bad (needs : Bool) (l : List Bs) : itemsW needs ⟨l, true⟩ = ([], ⟨l, true⟩) := by
  rw [itemsW_eq, dif_neg (by simp)]
theorem itemsF_plain : ∀ (ws : List Bs), itemsW false ⟨ws, false⟩ = ((ws.map fun t => (⟨t, 0, 0⟩ : Item)).map trunc, ⟨[], false⟩)
  | [] => by rw [itemsW_eq, dif_neg (by simp)]; rfl
  | t :: r => by
    have ih := itemsF_plain r
    rw [itemsW_eq, dif_pos ⟨by simp, rfl⟩]
    simp only [itemW, nextW, Bool.false_eq_true, if_false, ih, List.map_cons]
    rfl
theorem itemsT_ok : ∀ (n : Nat) (ws : List Bs), ws.length ≤ n → (∀ l, itemsT ws = some l → itemsW true ⟨ws, false⟩ = (l.map trunc, ⟨[], false⟩)) ∧ (itemsT ws = none → (itemsW true ⟨ws, false⟩).2.bad = true)
  | _, [], _ => ⟨fun l h => by
    simp only [itemsT, Option.some.injEq] at h; subst h
    rw [itemsW_eq, dif_neg (by simp)]; rfl, fun h => by simp [itemsT] at h⟩
  | _, [t], _ => ⟨fun l h => by simp [itemsT] at h, fun _ => by
    rw [itemsW_eq, dif_pos ⟨by simp, rfl⟩]
    simp [itemW, nextW, numberW, number, itemsW_bad]⟩
  | _, [t, a], _ => ⟨fun l h => by simp [itemsT] at h, fun _ => by
    rw [itemsW_eq, dif_pos ⟨by simp, rfl⟩]
    have n0 : number [] = none := by decide
    simp [itemW, nextW, numberW, n0, itemsW_bad]⟩
  | 0, t :: a :: b :: r, hn => by simp at hn
  | n + 1, t :: a :: b :: r, hn => by
    have ih := itemsT_ok n r (by simp at hn; omega)
    rw [itemsW_eq, dif_pos ⟨by simp, rfl⟩]
    simp only [itemsT]
    cases ha : number a with
    | none => exact ⟨fun l h => by simp at h, fun _ => by simp [itemW, nextW, numberW, ha, itemsW_bad]⟩
    | some x =>
      cases hb : number b with
      | none => exact ⟨fun l h => by simp at h, fun _ => by simp [itemW, nextW, numberW, ha, hb, itemsW_bad]⟩
      | some y =>
        simp only [Option.bind_some, itemW, nextW, numberW, if_true, ha, hb, Option.getD_some, Option.isSome_some, Bool.not_true, Bool.or_false]
        refine ⟨fun l h => ?_, fun h => ?_⟩
        · obtain ⟨l', hl', rfl⟩ := Option.map_eq_some_iff.1 h
          simp only [ih.1 l' hl', List.map_cons]
          rfl
        · rw [Option.map_eq_none_iff] at h
          exact ih.2 h
theorem itemsD_ok (needs : Bool) (ws : List Bs) (l : List Item) (h : itemsD needs ws = some l) : itemsW needs ⟨ws, false⟩ = (l.map trunc, ⟨[], false⟩) := by
  cases needs with
  | false =>
    simp only [itemsD, Bool.false_eq_true, if_false, Option.some.injEq] at h; subst h
    exact itemsF_plain ws
  | true =>
    simp only [itemsD, if_true] at h
    exact (itemsT_ok _ ws (Nat.le_refl _)).1 l h
theorem itemsD_no (needs : Bool) (ws : List Bs) (h : itemsD needs ws = none) : (itemsW needs ⟨ws, false⟩).2.bad = true := by
  cases needs with
  | false => simp [itemsD] at h
  | true =>
    simp only [itemsD, if_true] at h
    exact (itemsT_ok _ ws (Nat.le_refl _)).2 h
theorem itemsD_zero (ws : List Bs) (l : List Item) (h : itemsD false ws = some l) : ∀ i ∈ l, i.a = 0 ∧ i.b = 0 := by
  simp only [itemsD, Bool.false_eq_true, if_false, Option.some.injEq] at h; subst h
  intro i hi
  obtain ⟨t, _, rfl⟩ := List.mem_map.1 hi
  exact ⟨rfl, rfl⟩
def letterD (f : UInt8) (s : Bs) (m : Msg) : Option Msg :=
  if f = 70 then some { m with f := s } else if f = 69 then some { m with e := s } else if f = 84 then some { m with t := s } else match number s with
    | none => none
    | some x => if f = 78 then some { m with n := x } else if f = 83 then some { m with state := x } else if f = 85 then some { m with num := x } else some { m with epoch := x }
def fieldsD : Bs → List Bs → Msg → Option (List Bs × Msg)
  | [], ws, m => some (ws, m)
  | f :: fs, ws, m => if f = 73 then match itemsD (m.kind != 5) ws with
      | none => none
      | some l => fieldsD fs [] { m with items := m.items ++ l }
    else match ws with
      | [] => none
      | s :: r => match letterD f s m with
        | none => none
        | some m' => fieldsD fs r m'
theorem fieldW_bad (f : UInt8) (l : List Bs) (m : Msg) : (fieldW f ⟨l, true⟩ m).1.bad = true := by
  have h1 : (nextW ⟨l, true⟩).2.bad = true := by cases l <;> rfl
  have h2 : (numberW ⟨l, true⟩).2.bad = true := by simp [numberW, h1]
  unfold fieldW
  repeat' split
  all_goals first | exact h1 | exact h2 | (rw [itemsW_bad]) | rfl
theorem fieldsW_bad : ∀ (fs : Bs) (w : Wds) (m : Msg), w.bad = true → (fieldsW fs w m).1.bad = true
  | [], w, m, h => h
  | f :: fs, w, m, h => by
    simp only [fieldsW]
    refine fieldsW_bad fs _ _ ?_
    obtain ⟨l, b⟩ := w
    simp only at h; subst h
    exact fieldW_bad f l m
def truncM (m : Msg) : Msg := { m with items := m.items.map trunc }
def inLetters (f : UInt8) : Prop := f = 70 ∨ f = 69 ∨ f = 84 ∨ f = 78 ∨ f = 83 ∨ f = 85 ∨ f = 80 ∨ f = 73
theorem letter_ok {f : UInt8} (hf : inLetters f) (h73 : f ≠ 73) {s : Bs} {m m' : Msg} (h : letterD f s m = some m') (r : List Bs) : fieldW f ⟨s :: r, false⟩ (truncM m) = (⟨r, false⟩, truncM m') ∧ m'.kind = m.kind ∧ m'.items = m.items := by
  unfold letterD at h
  rcases hf with rfl | rfl | rfl | rfl | rfl | rfl | rfl | rfl
  · cases h; exact ⟨rfl, rfl, rfl⟩
  · cases h; exact ⟨rfl, rfl, rfl⟩
  · cases h; exact ⟨rfl, rfl, rfl⟩
  all_goals first | exact absurd rfl h73 | skip
  all_goals
    cases hn : number s with
    | none => simp [hn] at h
    | some x =>
      simp only [hn] at h
      cases h
      refine ⟨?_, rfl, rfl⟩
      simp [fieldW, numberW, nextW, hn, truncM]
theorem letter_no {f : UInt8} (hf : inLetters f) (h73 : f ≠ 73) {s : Bs} {m m0 : Msg} (h : letterD f s m = none) (r : List Bs) : (fieldW f ⟨s :: r, false⟩ m0).1.bad = true := by
  unfold letterD at h
  rcases hf with rfl | rfl | rfl | rfl | rfl | rfl | rfl | rfl
  · cases h
  · cases h
  · cases h
  all_goals first | exact absurd rfl h73 | skip
  all_goals
    cases hn : number s with
    | some x => simp [hn] at h
    | none => simp [fieldW, numberW, nextW, hn]
theorem field_nil {f : UInt8} (hf : inLetters f) (h73 : f ≠ 73) (m0 : Msg) : (fieldW f ⟨[], false⟩ m0).1.bad = true := by
  rcases hf with rfl | rfl | rfl | rfl | rfl | rfl | rfl | rfl
  all_goals first | exact absurd rfl h73 | simp [fieldW, numberW, nextW, number]
theorem fieldsD_ok : ∀ (fs : Bs) (ws : List Bs) (m : Msg), (∀ f ∈ fs, inLetters f) → (73 ∈ fs → (m.kind = 1 ∨ m.kind = 5) ∧ m.items = []) → fs.Nodup → (m.kind = 5 → ∀ i ∈ m.items, i.a = 0 ∧ i.b = 0) →
    (∀ r m', fieldsD fs ws m = some (r, m') → fieldsW fs ⟨ws, false⟩ (truncM m) = (⟨r, false⟩, truncM m') ∧ m'.kind = m.kind ∧ (m'.kind = 5 → ∀ i ∈ m'.items, i.a = 0 ∧ i.b = 0)) ∧
    (fieldsD fs ws m = none → (fieldsW fs ⟨ws, false⟩ (truncM m)).1.bad = true)
  | [], ws, m, _, _, _, hz => ⟨fun r m' h => by simp only [fieldsD, Option.some.injEq, Prod.mk.injEq] at h; obtain ⟨rfl, rfl⟩ := h; exact ⟨rfl, rfl, hz⟩, fun h => by simp [fieldsD] at h⟩
  | f :: fs, ws, m, hl, h73, hnd, hz => by
    have hnd' := List.nodup_cons.1 hnd
    have hlf := hl f (List.mem_cons_self ..)
    have hl' : ∀ f ∈ fs, inLetters f := fun g hg => hl g (List.mem_cons_of_mem _ hg)
    simp only [fieldsD, fieldsW]
    by_cases hf : f = 73
    · subst hf
      obtain ⟨hk, hi0⟩ := h73 (List.mem_cons_self ..)
      have hkk : ((truncM m).kind == 1) = (m.kind != 5) := by
        show (m.kind == 1) = _
        rcases hk with h | h <;> rw [h] <;> rfl
      have hfw : fieldW 73 ⟨ws, false⟩ (truncM m) = ((itemsW (m.kind != 5) ⟨ws, false⟩).2, { truncM m with items := (itemsW (m.kind != 5) ⟨ws, false⟩).1 }) := by
        show (_, _) = _
        rw [hkk]
      simp only [if_true, hfw]
      cases hd : itemsD (m.kind != 5) ws with
      | none => exact ⟨fun r m' h => by simp at h, fun _ => fieldsW_bad fs _ _ (itemsD_no _ ws hd)⟩
      | some l =>
        have hok := itemsD_ok _ ws l hd
        have ih := fieldsD_ok fs [] { m with items := m.items ++ l } hl' (fun h => absurd h hnd'.1) hnd'.2 (fun h5 i hi => by
          rw [hi0, List.nil_append] at hi
          have hk5 : m.kind = 5 := h5
          rw [show (m.kind != 5) = false by simp [hk5]] at hd
          exact itemsD_zero ws l hd i hi)
        simp only [hok]
        have e : truncM { m with items := m.items ++ l } = { truncM m with items := l.map trunc } := by simp [truncM, hi0]
        rw [e] at ih
        exact ih
    · simp only [hf, if_false]
      match ws with
      | [] => exact ⟨fun r m' h => by simp at h, fun _ => fieldsW_bad fs _ _ (field_nil hlf hf _)⟩
      | s :: r0 =>
        simp only
        cases hld : letterD f s m with
        | none => exact ⟨fun r m' h => by simp at h, fun _ => fieldsW_bad fs _ _ (letter_no hlf hf hld r0)⟩
        | some m1 =>
          obtain ⟨e1, e2, e3⟩ := letter_ok hlf hf hld r0
          simp only [e1]
          have ih := fieldsD_ok fs r0 m1 hl' (fun h => by
            have := h73 (List.mem_cons_of_mem _ h); rw [e2, e3]; exact this) hnd'.2 (fun h5 i hi => hz (e2 ▸ h5) i (e3 ▸ hi))
          rw [e2] at ih
          exact ih
-- the check does not see what is cut
theorem needOk_trunc (i : Item) : needOk (trunc i).a (trunc i).b = needOk i.a i.b := by
  simp only [trunc, needOf]
  split
  · rfl
  · rename_i h
    rw [Bool.eq_iff_iff]; simp only [needOk, Bool.and_eq_true, decide_eq_true_eq, Bool.not_eq_true', Bool.and_eq_false_iff, beq_eq_false_iff_ne]; omega
theorem listOk_trunc (k : Int) (l : List Item) (hz : k = 5 → ∀ i ∈ l, i.a = 0 ∧ i.b = 0) : listOk k (l.map trunc) = listOk k l := by
  have e1 : (l.map trunc).map (·.t) = l.map (·.t) := by rw [List.map_map]; rfl
  have e3 : (l.map trunc).all (fun i => needOk i.a i.b) = l.all (fun i => needOk i.a i.b) := by
    rw [List.all_map]; congr 1; funext i; exact needOk_trunc i
  simp only [listOk, e1, List.length_map, e3]
  by_cases h5 : k = 5
  · have e2 : l.map trunc = l := by
      conv => rhs; rw [← List.map_id l]
      refine List.map_congr_left fun i hi => ?_
      have := hz h5 i hi
      obtain ⟨t, a, b⟩ := i
      simp only at this
      obtain ⟨rfl, rfl⟩ := this
      rfl
    rw [e2]
  · simp only [h5, if_false]
theorem checkM_trunc (m : Msg) (hz : m.kind = 5 → ∀ i ∈ m.items, i.a = 0 ∧ i.b = 0) : checkM (truncM m) = checkM m := by
  have e : (m.items.map trunc).isEmpty = m.items.isEmpty := by cases m.items <;> rfl
  simp only [checkM, truncM, listOk_trunc m.kind m.items hz, e]
theorem trunc_of_ok {m : Msg} (h : checkM m = true) (hz : m.kind = 5 → ∀ i ∈ m.items, i.a = 0 ∧ i.b = 0) : truncM m = m := by
  have : m.items.map trunc = m.items := by
    conv => rhs; rw [← List.map_id m.items]
    refine List.map_congr_left fun i hi => ?_
    simp only [checkM, Bool.and_eq_true] at h
    have h2 := h.2
    have hcase : i.a ≤ 100000 ∧ i.b ≤ 100000 := by
      by_cases h5 : m.kind = 5
      · have := hz h5 i hi; omega
      · split at h2
        · simp only [listOk, h5, if_false, Bool.and_eq_true, List.all_eq_true] at h2
          have := h2.2.1 i hi
          simp only [needOk, Bool.and_eq_true, decide_eq_true_eq] at this
          omega
        · rw [List.isEmpty_iff] at h2; rw [h2] at hi; cases hi
    simp only [trunc, needOf, hcase, and_self, if_true, id]
  obtain ⟨k, f, e, t, n, st, nu, ep, items⟩ := m
  simp only at this
  simp only [truncM, this]
-- a line's words
def numsD : List Bs → Option (List Nat)
  | [] => some []
  | s :: r => match number s with
    | none => none
    | some x => (numsD r).map (x :: ·)
def tickD (h : Bs) (ns : List Nat) : Option Step :=
  if h = wTick ∧ ns.length = 1 then some { kind := 2, n := ((ns[0]?.getD 0 : Nat) : Int) }
  else if h = wFuse ∧ ns.length = 1 then some { kind := 3, n := ((ns[0]?.getD 0 : Nat) : Int) }
  else if h = wCrash ∧ ns.length = 1 then some { kind := 4, n := ((ns[0]?.getD 0 : Nat) : Int), m := -1 }
  else if h = wCrash ∧ ns.length = 2 then some { kind := 4, n := ((ns[0]?.getD 0 : Nat) : Int), m := ((ns[1]?.getD 0 : Nat) : Int) }
  else none
def stepD (l : List Bs) : Option Step :=
  match l with
  | [] => none
  | h :: ws =>
    if h = wTick ∨ h = wFuse ∨ h = wCrash then match numsD ws with
      | none => none
      | some ns => tickD h ns
    else match kindOf h with
      | none => none
      | some k => match fieldsD (fieldsOf k) ws { kind := k } with
        | none => none
        | some (r, m) => if r = [] ∧ checkM m = true then some { kind := 1, msg := m } else none
theorem kindOf_mem {h : Bs} {k : Int} (hk : kindOf h = some k) : k = 1 ∨ k = 2 ∨ k = 3 ∨ k = 4 ∨ k = 5 ∨ k = 6 ∨ k = 7 ∨ k = 8 ∨ k = 9 := by
  unfold kindOf kindsL at hk
  simp only [List.lookup_cons, List.lookup_nil] at hk
  repeat' split at hk
  all_goals first | (cases hk; done) | (simp only [Option.some.injEq] at hk; omega)
theorem stepD_eq (l : List Bs) (hl : l ≠ []) : stepD l = if (stepS l).2 = true then some (stepS l).1 else none := by
  obtain ⟨h, ws, rfl⟩ : ∃ a b, l = a :: b := by cases l with
    | nil => exact absurd rfl hl
    | cons a b => exact ⟨a, b, rfl⟩
  have hd : (h :: ws).headD [] = h := rfl
  have ht : (h :: ws).tail = ws := rfl
  simp only [stepD, stepS, hd, ht]
  have nf : wFuse ≠ wTick := by decide
  have nc : wCrash ≠ wTick := by decide
  have nc2 : wCrash ≠ wFuse := by decide
  by_cases h1 : h = wTick
  · subst h1
    simp only [true_or, if_true]
    match ws with
    | [] => simp [numsD, tickD, numberW, nextW, number, okW]
    | [s] =>
      cases hn : number s <;> simp [numsD, tickD, numberW, nextW, okW, hn]
    | s :: s' :: r =>
      have : okW (numberW ⟨s :: s' :: r, false⟩).2 = false := by simp [okW, numberW, nextW]
      simp only [this, Bool.false_eq_true, if_false]
      simp only [numsD]
      cases number s <;> simp only [Option.map_none]
      cases number s' <;> simp only [Option.map_none]
      cases numsD r <;> simp [tickD, nf, nc, nc2, nc.symm, nc2.symm, nf.symm]
  by_cases h2 : h = wFuse
  · subst h2
    simp only [nf, true_or, or_true, if_true, if_false]
    match ws with
    | [] => simp [numsD, tickD, numberW, nextW, number, okW]
    | [s] =>
      cases hn : number s <;> simp [numsD, tickD, numberW, nextW, okW, hn, nf]
    | s :: s' :: r =>
      have : okW (numberW ⟨s :: s' :: r, false⟩).2 = false := by simp [okW, numberW, nextW]
      simp only [this, Bool.false_eq_true, if_false]
      simp only [numsD]
      cases number s <;> simp only [Option.map_none]
      cases number s' <;> simp only [Option.map_none]
      cases numsD r <;> simp [tickD, nf, nc, nc2, nc.symm, nc2.symm, nf.symm]
  by_cases h3 : h = wCrash
  · subst h3
    simp only [nc, nc2, or_true, if_true, if_false]
    match ws with
    | [] => simp [numsD, tickD, numberW, nextW, number, okW]
    | [s] =>
      cases hn : number s <;> simp [numsD, tickD, numberW, nextW, okW, hn, nc, nc2]
    | [s, s'] =>
      cases hn : number s <;> cases hn' : number s' <;> simp [numsD, tickD, numberW, nextW, okW, hn, hn', nc, nc2]
    | s :: s' :: s'' :: r =>
      have hpos : 0 < (numberW ⟨s :: s' :: s'' :: r, false⟩).2.l.length := by simp [numberW, nextW]
      have : okW (numberW (numberW ⟨s :: s' :: s'' :: r, false⟩).2).2 = false := by simp [okW, numberW, nextW]
      simp only [hpos, if_true, this, Bool.false_eq_true, if_false]
      simp only [numsD]
      cases number s <;> simp only [Option.map_none]
      cases number s' <;> simp only [Option.map_none]
      cases number s'' <;> simp only [Option.map_none]
      cases numsD r <;> simp [tickD]
  · simp only [h1, h2, h3, or_self, if_false]
    cases hk : kindOf h with
    | none => simp
    | some k =>
      have hkm := kindOf_mem hk
      have hfl : (∀ f ∈ fieldsOf k, inLetters f) ∧ (73 ∈ fieldsOf k → k = 1 ∨ k = 5) ∧ (fieldsOf k).Nodup := by
        rcases hkm with rfl | rfl | rfl | rfl | rfl | rfl | rfl | rfl | rfl <;> refine ⟨?_, ?_, by decide⟩ <;> first | decide | (intro f hf; revert f hf; simp [fieldsOf, inLetters])
      have hm := fieldsD_ok (fieldsOf k) ws { kind := k } hfl.1 (fun h => ⟨hfl.2.1 h, rfl⟩) hfl.2.2 (fun _ i hi => by cases hi)
      have e0 : truncM { kind := k } = { kind := k } := rfl
      rw [e0] at hm
      simp only
      cases hfd : fieldsD (fieldsOf k) ws { kind := k } with
      | none =>
        have := hm.2 hfd
        simp [okW, this]
      | some p =>
        obtain ⟨r, m'⟩ := p
        obtain ⟨e1, e2, e3⟩ := hm.1 r m' hfd
        simp only [e1, okW, Bool.not_false, Bool.true_and, checkM_trunc m' e3]
        cases hc : checkM m' with
        | false => simp
        | true =>
          rw [trunc_of_ok hc e3]
          cases r <;> simp
end Go.Va
