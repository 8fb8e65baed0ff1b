/-
  Contracts: may a message be?
-/
import Derived.Test.YtfldcobcnlgapaaDoorCtMap
set_option linter.unusedVariables false
set_option linter.unusedSimpArgs false
set_option maxRecDepth 100000
namespace Go.Va
/-- the entries of a map, in whatever order they came -/
structure MapIs (es : List AEnt) (c : Nat) (L : List (AV × AV)) : Prop where
  sub : ∀ e ∈ es, (e.key, e.val) ∈ L
  sup : ∀ p ∈ L, ∃ e ∈ es, (e.key, e.val) = p
  born : ∀ e ∈ es, e.born < c
  nodup : (es.map (·.born)).Nodup
theorem c_message_texts (o : Nat) {H : AH} {K : AV → AH → Prop} (h : ∀ es, MapIs es 3 [(.int .i32 70, .ptr o 1), (.int .i32 69, .ptr o 2), (.int .i32 84, .ptr o 3)] → K (.map H.next) (H.add (.map es 3))) : r_message_texts [.ptr o 0] H K := by
  simp only [r_message_texts, abin_i_add, abin_i_sub, abin_i_mul, abin_i_eql, abin_i_neq, abin_i_lss, abin_i_leq, abin_i_gtr, abin_i_geq, abin_s_eql, abin_s_neq, bnd_some, bnd_none, branch_bool, gwant_bool, gwant_nothing, aguard_some, wantE_some, pickV_bool, nilck_ptr, nilck_elem, aoff_ptr, aoff_elem, aun_not, aun_neg, lenStr_str, lenSl_nils, lenSl_sl, lenSl_osl, aextract_tup, ld1uelem, idxStr_str, amin2uint, amax2uint, rangeStr_str, sliceStr_from, sliceStr_to, List.getElem?_cons_zero, List.getElem?_cons_succ, Option.map_some, Option.bind_some, Int.toNat_natCast, Int.toNat_zero, Int.le_refl, Bool.not_true, Bool.not_false, Bool.not_not, Bool.false_eq_true, if_true, if_false, decide_eq_true_eq, beq_self_eq_true, bool_ft, bool_tf, decide_true, decide_false, reduceCtorEq, cmpNil, cmpRes, boxCells, AV.known, AV.cells, Nat.zero_add, and_self, and_true, true_and, ite_self, forall_const, not_true_eq_false, not_false_eq_true, mput, get_add_self, add_put, afind, keyIs, keySame, same1, List.nil_append, List.cons_append, Int.reduceBEq]
  refine ⟨⟨h _ ?_, h _ ?_⟩, ⟨h _ ?_, h _ ?_⟩, h _ ?_, h _ ?_⟩
  all_goals exact ⟨by simp, by simp, by simp, by simp⟩
set_option maxHeartbeats 1000000 in
theorem c_message_numbers (o : Nat) {H : AH} {K : AV → AH → Prop} (h : ∀ es, MapIs es 4 [(.int .i32 78, .ptr o 4), (.int .i32 83, .ptr o 5), (.int .i32 85, .ptr o 6), (.int .i32 80, .ptr o 7)] → K (.map H.next) (H.add (.map es 4))) : r_message_numbers [.ptr o 0] H K := by
  simp only [r_message_numbers, abin_i_add, abin_i_sub, abin_i_mul, abin_i_eql, abin_i_neq, abin_i_lss, abin_i_leq, abin_i_gtr, abin_i_geq, abin_s_eql, abin_s_neq, bnd_some, bnd_none, branch_bool, gwant_bool, gwant_nothing, aguard_some, wantE_some, pickV_bool, nilck_ptr, nilck_elem, aoff_ptr, aoff_elem, aun_not, aun_neg, lenStr_str, lenSl_nils, lenSl_sl, lenSl_osl, aextract_tup, ld1uelem, idxStr_str, amin2uint, amax2uint, rangeStr_str, sliceStr_from, sliceStr_to, List.getElem?_cons_zero, List.getElem?_cons_succ, Option.map_some, Option.bind_some, Int.toNat_natCast, Int.toNat_zero, Int.le_refl, Bool.not_true, Bool.not_false, Bool.not_not, Bool.false_eq_true, if_true, if_false, decide_eq_true_eq, beq_self_eq_true, bool_ft, bool_tf, decide_true, decide_false, reduceCtorEq, cmpNil, cmpRes, boxCells, AV.known, AV.cells, Nat.zero_add, and_self, and_true, true_and, ite_self, forall_const, not_true_eq_false, not_false_eq_true, mput, get_add_self, add_put, afind, keyIs, keySame, same1, List.nil_append, List.cons_append, Int.reduceBEq]
  refine ⟨⟨⟨h _ ?_, h _ ?_⟩, ⟨h _ ?_, h _ ?_⟩, h _ ?_, h _ ?_⟩, ⟨⟨h _ ?_, h _ ?_⟩, ⟨h _ ?_, h _ ?_⟩, h _ ?_, h _ ?_⟩, ⟨⟨h _ ?_, h _ ?_⟩, ⟨h _ ?_, h _ ?_⟩, h _ ?_, h _ ?_⟩, ⟨h _ ?_, h _ ?_⟩, ⟨h _ ?_, h _ ?_⟩, h _ ?_, h _ ?_⟩
  all_goals exact ⟨by simp, by simp, by simp, by simp⟩
theorem c_message_number (f : UInt8) (n : Int) {H : AH} {K : AV → AH → Prop} (h : K (.bool (numberOk f n)) H) : r_message_number [.int .i32 f.toNat, .int .i64 n] H K := by
  have e : ((f.toNat : Int) == 83) = decide (f = 83) := by
    rw [Bool.eq_iff_iff]; simp only [beq_iff_eq, decide_eq_true_eq]
    constructor
    · intro h; exact UInt8.toNat_inj.1 (show f.toNat = (83 : UInt8).toNat from by have : (83 : UInt8).toNat = 83 := rfl
                                                                                  omega)
    · rintro rfl; rfl
  unfold numberOk at h
  by_cases hf : f = 83
  · subst hf
    by_cases h1 : 1 ≤ n
    · have h1' : n ≥ 1 := h1
      simpa [r_message_number, h1, h1'] using h
    · have h1' : ¬ n ≥ 1 := h1
      simpa [r_message_number, h1, h1'] using h
  · by_cases h1 : 1 ≤ n
    · have h1' : n ≥ 1 := h1
      simpa [r_message_number, e, hf, h1, h1'] using h
    · have h1' : ¬ n ≥ 1 := h1
      simpa [r_message_number, e, hf, h1, h1'] using h

-- ---------------------------------------------------------------- items
section
variable {ct : Tab} {f : AV} {p : Item → Bool}
theorem c_IndexFunc_items {H0 : AH} {g : Grow} {l : List Item} (hp : ∀ i ∈ l, ∀ H K, (∀ H', Ext H H' → K (.bool (p i)) H') → acallv ct f [encItem i] H K) (hl : l.length ≤ 1000000000) {K : AV → AH → Prop}
    (h : ∀ H', Ext H0 H' → ∀ n : Int, (0 ≤ n ↔ l.any p = true) → K (.int .i64 n) H') :
    ∀ (r : List Item) (i : Nat) (H : AH), l.drop i = r → (r.any p = l.any p) → Ext H0 H →
    LoopP (r_slices_IndexFunc_api_Item_api_Item_p52 ct K) [.sl g 2 (l.map encItem), f, .int .i64 l.length, .int .i64 i] H
  | [], i, H, hr, ha, hx => by
    refine .fold ?_
    have hi : l.length ≤ i := by simpa using hr
    have hlt : ¬ ((i : Int) < (l.length : Int)) := by omega
    simp only [r_slices_IndexFunc_api_Item_api_Item_p52, abin_i_add, abin_i_sub, abin_i_mul, abin_i_eql, abin_i_neq, abin_i_lss, abin_i_leq, abin_i_gtr, abin_i_geq, abin_s_eql, abin_s_neq, bnd_some, bnd_none, branch_bool, gwant_bool, gwant_nothing, aguard_some, wantE_some, pickV_bool, nilck_ptr, nilck_elem, aoff_ptr, aoff_elem, aun_not, aun_neg, lenStr_str, lenSl_nils, lenSl_sl, lenSl_osl, aextract_tup, ld1uelem, idxStr_str, amin2uint, amax2uint, rangeStr_str, sliceStr_from, sliceStr_to, List.getElem?_cons_zero, List.getElem?_cons_succ, Option.map_some, Option.bind_some, Int.toNat_natCast, Int.toNat_zero, Int.le_refl, Bool.not_true, Bool.not_false, Bool.not_not, Bool.false_eq_true, if_true, if_false, decide_eq_true_eq, beq_self_eq_true, bool_ft, bool_tf, decide_true, decide_false, reduceCtorEq, cmpNil, cmpRes, boxCells, AV.known, AV.cells, Nat.zero_add, and_self, and_true, true_and, ite_self, forall_const, not_true_eq_false, not_false_eq_true, hlt]
    refine h H hx (-1) ?_
    rw [← ha]; simp
  | w :: r, i, H, hr, ha, hx => by
    refine .fold ?_
    have hw : l[i]? = some w := by
      have := congrArg (fun l => l[0]?) hr
      simpa using this
    have hlt : i < l.length := (List.getElem?_eq_some_iff.1 hw).1
    have hr' : l.drop (i + 1) = r := by rw [← List.drop_drop, hr]; rfl
    have h1 : ((i : Int) < (l.length : Int)) := by omega
    have h2 : (0 : Int) ≤ (i : Int) := by omega
    have hww : IntKind.i64.wrap ((i : Int) + 1) = ((i + 1 : Nat) : Int) := by rw [wrap_i64 (by omega) (by omega)]; omega
    have hgi : (l.map encItem)[i]? = some (encItem w) := by simp [hw]
    have hld : ldN 2 (.elem (encItem w).cells 0) H = some (encItem w) := by simp [ldN, encItem, AV.cells]
    have hk : (encItem w).known = true := rfl
    simp only [r_slices_IndexFunc_api_Item_api_Item_p52, abin_i_lss, bnd_some, branch_bool, decide_eq_true_eq, h1, if_true, idxA, h2, and_self, Int.toNat_natCast, hgi, Option.bind_some, hk, hld]
    refine hp w (List.mem_of_getElem? hw) H _ fun H1 hx1 => ?_
    simp only [abin_i_add, abin_i_sub, abin_i_mul, abin_i_eql, abin_i_neq, abin_i_lss, abin_i_leq, abin_i_gtr, abin_i_geq, abin_s_eql, abin_s_neq, bnd_some, bnd_none, branch_bool, gwant_bool, gwant_nothing, aguard_some, wantE_some, pickV_bool, nilck_ptr, nilck_elem, aoff_ptr, aoff_elem, aun_not, aun_neg, lenStr_str, lenSl_nils, lenSl_sl, lenSl_osl, aextract_tup, ld1uelem, idxStr_str, amin2uint, amax2uint, rangeStr_str, sliceStr_from, sliceStr_to, List.getElem?_cons_zero, List.getElem?_cons_succ, Option.map_some, Option.bind_some, Int.toNat_natCast, Int.toNat_zero, Int.le_refl, Bool.not_true, Bool.not_false, Bool.not_not, Bool.false_eq_true, if_true, if_false, decide_eq_true_eq, beq_self_eq_true, bool_ft, bool_tf, decide_true, decide_false, reduceCtorEq, cmpNil, cmpRes, boxCells, AV.known, AV.cells, Nat.zero_add, and_self, and_true, true_and, ite_self, forall_const, not_true_eq_false, not_false_eq_true, hww]
    cases hpw : p w with
    | true =>
      simp only [abin_i_add, abin_i_sub, abin_i_mul, abin_i_eql, abin_i_neq, abin_i_lss, abin_i_leq, abin_i_gtr, abin_i_geq, abin_s_eql, abin_s_neq, bnd_some, bnd_none, branch_bool, gwant_bool, gwant_nothing, aguard_some, wantE_some, pickV_bool, nilck_ptr, nilck_elem, aoff_ptr, aoff_elem, aun_not, aun_neg, lenStr_str, lenSl_nils, lenSl_sl, lenSl_osl, aextract_tup, ld1uelem, idxStr_str, amin2uint, amax2uint, rangeStr_str, sliceStr_from, sliceStr_to, List.getElem?_cons_zero, List.getElem?_cons_succ, Option.map_some, Option.bind_some, Int.toNat_natCast, Int.toNat_zero, Int.le_refl, Bool.not_true, Bool.not_false, Bool.not_not, Bool.false_eq_true, if_true, if_false, decide_eq_true_eq, beq_self_eq_true, bool_ft, bool_tf, decide_true, decide_false, reduceCtorEq, cmpNil, cmpRes, boxCells, AV.known, AV.cells, Nat.zero_add, and_self, and_true, true_and, ite_self, forall_const, not_true_eq_false, not_false_eq_true]
      refine h H1 (hx.trans hx1) i ?_
      rw [← ha]; simp [hpw]
    | false =>
      simp only [abin_i_add, abin_i_sub, abin_i_mul, abin_i_eql, abin_i_neq, abin_i_lss, abin_i_leq, abin_i_gtr, abin_i_geq, abin_s_eql, abin_s_neq, bnd_some, bnd_none, branch_bool, gwant_bool, gwant_nothing, aguard_some, wantE_some, pickV_bool, nilck_ptr, nilck_elem, aoff_ptr, aoff_elem, aun_not, aun_neg, lenStr_str, lenSl_nils, lenSl_sl, lenSl_osl, aextract_tup, ld1uelem, idxStr_str, amin2uint, amax2uint, rangeStr_str, sliceStr_from, sliceStr_to, List.getElem?_cons_zero, List.getElem?_cons_succ, Option.map_some, Option.bind_some, Int.toNat_natCast, Int.toNat_zero, Int.le_refl, Bool.not_true, Bool.not_false, Bool.not_not, Bool.false_eq_true, if_true, if_false, decide_eq_true_eq, beq_self_eq_true, bool_ft, bool_tf, decide_true, decide_false, reduceCtorEq, cmpNil, cmpRes, boxCells, AV.known, AV.cells, Nat.zero_add, and_self, and_true, true_and, ite_self, forall_const, not_true_eq_false, not_false_eq_true]
      exact c_IndexFunc_items hp hl h r (i + 1) H1 hr' (by rw [← ha]; simp [hpw]) (hx.trans hx1)
theorem c_ContainsFunc_items {l : List Item} {v : AV} (hv : IsItems v l) (hp : ∀ i ∈ l, ∀ H K, (∀ H', Ext H H' → K (.bool (p i)) H') → acallv ct f [encItem i] H K) (hl : l.length ≤ 1000000000) {H : AH} {K : AV → AH → Prop}
    (h : ∀ H', Ext H H' → K (.bool (l.any p)) H') : r_slices_ContainsFunc_api_Item_api_Item ct [v, f] H K := by
  rcases hv with ⟨rfl, rfl⟩ | ⟨g, rfl⟩
  · simp only [r_slices_ContainsFunc_api_Item_api_Item, r_slices_IndexFunc_api_Item_api_Item, abin_i_add, abin_i_sub, abin_i_mul, abin_i_eql, abin_i_neq, abin_i_lss, abin_i_leq, abin_i_gtr, abin_i_geq, abin_s_eql, abin_s_neq, bnd_some, bnd_none, branch_bool, gwant_bool, gwant_nothing, aguard_some, wantE_some, pickV_bool, nilck_ptr, nilck_elem, aoff_ptr, aoff_elem, aun_not, aun_neg, lenStr_str, lenSl_nils, lenSl_sl, lenSl_osl, aextract_tup, ld1uelem, idxStr_str, amin2uint, amax2uint, rangeStr_str, sliceStr_from, sliceStr_to, List.getElem?_cons_zero, List.getElem?_cons_succ, Option.map_some, Option.bind_some, Int.toNat_natCast, Int.toNat_zero, Int.le_refl, Bool.not_true, Bool.not_false, Bool.not_not, Bool.false_eq_true, if_true, if_false, decide_eq_true_eq, beq_self_eq_true, bool_ft, bool_tf, decide_true, decide_false, reduceCtorEq, cmpNil, cmpRes, boxCells, AV.known, AV.cells, Nat.zero_add, and_self, and_true, true_and, ite_self, forall_const, not_true_eq_false, not_false_eq_true]
    refine .fold ?_
    have := h H (Ext.refl H)
    simpa [r_slices_IndexFunc_api_Item_api_Item_p52] using this
  · simp only [r_slices_ContainsFunc_api_Item_api_Item, r_slices_IndexFunc_api_Item_api_Item, abin_i_add, abin_i_sub, abin_i_mul, abin_i_eql, abin_i_neq, abin_i_lss, abin_i_leq, abin_i_gtr, abin_i_geq, abin_s_eql, abin_s_neq, bnd_some, bnd_none, branch_bool, gwant_bool, gwant_nothing, aguard_some, wantE_some, pickV_bool, nilck_ptr, nilck_elem, aoff_ptr, aoff_elem, aun_not, aun_neg, lenStr_str, lenSl_nils, lenSl_sl, lenSl_osl, aextract_tup, ld1uelem, idxStr_str, amin2uint, amax2uint, rangeStr_str, sliceStr_from, sliceStr_to, List.getElem?_cons_zero, List.getElem?_cons_succ, Option.map_some, Option.bind_some, Int.toNat_natCast, Int.toNat_zero, Int.le_refl, Bool.not_true, Bool.not_false, Bool.not_not, Bool.false_eq_true, if_true, if_false, decide_eq_true_eq, beq_self_eq_true, bool_ft, bool_tf, decide_true, decide_false, reduceCtorEq, cmpNil, cmpRes, boxCells, AV.known, AV.cells, Nat.zero_add, and_self, and_true, true_and, ite_self, forall_const, not_true_eq_false, not_false_eq_true, List.length_map]
    refine c_IndexFunc_items hp hl (fun H' hx n hn => ?_) l 0 H rfl rfl (Ext.refl H)
    have e : decide (n ≥ 0) = l.any p := by
      rw [Bool.eq_iff_iff, ← hn]; simp
    simp only [abin_i_add, abin_i_sub, abin_i_mul, abin_i_eql, abin_i_neq, abin_i_lss, abin_i_leq, abin_i_gtr, abin_i_geq, abin_s_eql, abin_s_neq, bnd_some, bnd_none, branch_bool, gwant_bool, gwant_nothing, aguard_some, wantE_some, pickV_bool, nilck_ptr, nilck_elem, aoff_ptr, aoff_elem, aun_not, aun_neg, lenStr_str, lenSl_nils, lenSl_sl, lenSl_osl, aextract_tup, ld1uelem, idxStr_str, amin2uint, amax2uint, rangeStr_str, sliceStr_from, sliceStr_to, List.getElem?_cons_zero, List.getElem?_cons_succ, Option.map_some, Option.bind_some, Int.toNat_natCast, Int.toNat_zero, Int.le_refl, Bool.not_true, Bool.not_false, Bool.not_not, Bool.false_eq_true, if_true, if_false, decide_eq_true_eq, beq_self_eq_true, bool_ft, bool_tf, decide_true, decide_false, reduceCtorEq, cmpNil, cmpRes, boxCells, AV.known, AV.cells, Nat.zero_add, and_self, and_true, true_and, ite_self, forall_const, not_true_eq_false, not_false_eq_true, e]
    exact h H' hx
end
theorem c_list_1 (i : Item) (hi : ItemSmall i) {H : AH} {K : AV → AH → Prop} (h : ∀ H', Ext H H' → K (.bool !(i.a == 0 && i.b == 0)) H') : r_message_list_1 [encItem i] H K := by
  simp only [r_message_list_1, encItem, abin_i_add, abin_i_sub, abin_i_mul, abin_i_eql, abin_i_neq, abin_i_lss, abin_i_leq, abin_i_gtr, abin_i_geq, abin_s_eql, abin_s_neq, bnd_some, bnd_none, branch_bool, gwant_bool, gwant_nothing, aguard_some, wantE_some, pickV_bool, nilck_ptr, nilck_elem, aoff_ptr, aoff_elem, aun_not, aun_neg, lenStr_str, lenSl_nils, lenSl_sl, lenSl_osl, aextract_tup, ld1uelem, idxStr_str, amin2uint, amax2uint, rangeStr_str, sliceStr_from, sliceStr_to, List.getElem?_cons_zero, List.getElem?_cons_succ, Option.map_some, Option.bind_some, Int.toNat_natCast, Int.toNat_zero, Int.le_refl, Bool.not_true, Bool.not_false, Bool.not_not, Bool.false_eq_true, if_true, if_false, decide_eq_true_eq, beq_self_eq_true, bool_ft, bool_tf, decide_true, decide_false, reduceCtorEq, cmpNil, cmpRes, boxCells, AV.known, AV.cells, Nat.zero_add, and_self, and_true, true_and, ite_self, forall_const, not_true_eq_false, not_false_eq_true, ld1uptr (get_add_self _ _), cplx_zero i.a i.b hi.1 hi.2.1]
  exact h _ ((Ext.refl H).add _)
theorem c_list_2 (i : Item) (hi : ItemSmall i) {H : AH} {K : AV → AH → Prop} (h : ∀ H', Ext H H' → K (.bool !(needOk i.a i.b)) H') : r_message_list_2 [encItem i] H K := by
  simp only [r_message_list_2, encItem, abin_i_add, abin_i_sub, abin_i_mul, abin_i_eql, abin_i_neq, abin_i_lss, abin_i_leq, abin_i_gtr, abin_i_geq, abin_s_eql, abin_s_neq, bnd_some, bnd_none, branch_bool, gwant_bool, gwant_nothing, aguard_some, wantE_some, pickV_bool, nilck_ptr, nilck_elem, aoff_ptr, aoff_elem, aun_not, aun_neg, lenStr_str, lenSl_nils, lenSl_sl, lenSl_osl, aextract_tup, ld1uelem, idxStr_str, amin2uint, amax2uint, rangeStr_str, sliceStr_from, sliceStr_to, List.getElem?_cons_zero, List.getElem?_cons_succ, Option.map_some, Option.bind_some, Int.toNat_natCast, Int.toNat_zero, Int.le_refl, Bool.not_true, Bool.not_false, Bool.not_not, Bool.false_eq_true, if_true, if_false, decide_eq_true_eq, beq_self_eq_true, bool_ft, bool_tf, decide_true, decide_false, reduceCtorEq, cmpNil, cmpRes, boxCells, AV.known, AV.cells, Nat.zero_add, and_self, and_true, true_and, ite_self, forall_const, not_true_eq_false, not_false_eq_true, ld1uptr (get_add_self _ _)]
  refine c_need_Right i.a i.b hi.1 hi.2.1 ?_
  simp only [abin_i_add, abin_i_sub, abin_i_mul, abin_i_eql, abin_i_neq, abin_i_lss, abin_i_leq, abin_i_gtr, abin_i_geq, abin_s_eql, abin_s_neq, bnd_some, bnd_none, branch_bool, gwant_bool, gwant_nothing, aguard_some, wantE_some, pickV_bool, nilck_ptr, nilck_elem, aoff_ptr, aoff_elem, aun_not, aun_neg, lenStr_str, lenSl_nils, lenSl_sl, lenSl_osl, aextract_tup, ld1uelem, idxStr_str, amin2uint, amax2uint, rangeStr_str, sliceStr_from, sliceStr_to, List.getElem?_cons_zero, List.getElem?_cons_succ, Option.map_some, Option.bind_some, Int.toNat_natCast, Int.toNat_zero, Int.le_refl, Bool.not_true, Bool.not_false, Bool.not_not, Bool.false_eq_true, if_true, if_false, decide_eq_true_eq, beq_self_eq_true, bool_ft, bool_tf, decide_true, decide_false, reduceCtorEq, cmpNil, cmpRes, boxCells, AV.known, AV.cells, Nat.zero_add, and_self, and_true, true_and, ite_self, forall_const, not_true_eq_false, not_false_eq_true]
  exact h _ ((Ext.refl H).add _)
theorem c_list_loop (kind : Int) (l : List Item) (hs : ItemsSmall l) {g : Grow} {v0 : AV} {H0 : AH} {K : AV → AH → Prop} 
    (h : ∀ (v : AV) H', Ext H0 H' → IsSl 1 .str v (l.map (·.t)) → (LoopP (r_message_list_p116 K) [.int .i64 kind, v0, v, .sl g 2 (l.map encItem), .int .i64 l.length, .int .i64 l.length] H')) :
    ∀ (r : List Item) (i : Nat) (v : AV) (H : AH), l.drop i = r → IsGrow 1 .str H0 v ((l.take i).map (·.t)) H → Ext H0 H → i ≤ l.length →
    LoopP (r_message_list_p116 K) [.int .i64 kind, v0, v, .sl g 2 (l.map encItem), .int .i64 l.length, .int .i64 i] H
  | [], i, v, H, hr, hg, hx, hil => by
    have hi : l.length ≤ i := by simpa using hr
    have : i = l.length := by omega
    subst this
    rw [List.take_of_length_le (Nat.le_refl _)] at hg
    exact h v H hx hg.isSl
  | w :: r, i, v, H, hr, hg, hx, hil => by
    refine .fold ?_
    have hw : l[i]? = some w := by
      have := congrArg (fun l => l[0]?) hr
      simpa using this
    have hlt : i < l.length := (List.getElem?_eq_some_iff.1 hw).1
    have hr' : l.drop (i + 1) = r := by rw [← List.drop_drop, hr]; rfl
    have h1 : ((i : Int) < (l.length : Int)) := by omega
    have h2 : (0 : Int) ≤ (i : Int) := by omega
    have hll := hs.1
    have hww : IntKind.i64.wrap ((i : Int) + 1) = ((i + 1 : Nat) : Int) := by rw [wrap_i64 (by omega) (by omega)]; omega
    have hgi : (l.map encItem)[i]? = some (encItem w) := by simp [hw]
    have hld : ldN 2 (.elem (encItem w).cells 0) H = some (encItem w) := by simp [ldN, encItem, AV.cells]
    have hk : (encItem w).known = true := rfl
    have hst : ast 2 (.ptr H.next 0) (encItem w) (H.add (.cells [.str [], .cplx .f64 0 0])) = some (H.add (.cells (encItem w).cells)) := by
      have := ast_all (cs := (encItem w).cells) (get_add_self H (.cells [.str [], .cplx .f64 0 0])) rfl rfl
      rw [add_put] at this; exact this
    have hc0 : (encItem w).cells[0]? = some (.str w.t) := rfl
    have ht : (l.take (i + 1)).map (·.t) = (l.take i).map (·.t) ++ [w.t] := by
      rw [List.take_succ_eq_append_getElem hlt, List.map_append]; congr 2; simp [(List.getElem?_eq_some_iff.1 hw).2]
    simp only [r_message_list_p116, abin_i_lss, bnd_some, branch_bool, decide_eq_true_eq, h1, if_true, idxA, h2, and_self, Int.toNat_natCast, hgi, Option.bind_some, hk, hld, hst, aoff_ptr, Nat.add_zero, ld1uptr (get_add_self _ _), hc0, buildSl_one 1 (.str w.t) rfl rfl]
    have hgrow : IsGrow 1 AV.str H0 v ((l.take i).map (·.t)) (H.add (.cells (encItem w).cells)) := hg.mono (by simp) (fun _ _ => rfl)
    refine hgrow.app (xs := [w.t]) (hx.add _) (.inr ⟨_, rfl⟩) (by simp; omega) (by simp; omega) rfl fun v' H' hg' hx' _ _ => ?_
    simp only [bnd_some, abin_i_add, hww]
    exact c_list_loop kind l hs h r (i + 1) v' H' hr' (by rw [ht]; exact hg') hx' (by omega)
theorem names_small {l : List Item} (hs : ItemsSmall l) : ∀ w ∈ l.map (·.t), w.length ≤ 1000000000 := by
  intro w hw
  obtain ⟨i, hi, rfl⟩ := List.mem_map.1 hw
  exact (hs.2 i hi).2.2
theorem any_not {α : Type} (p : α → Bool) (l : List α) : (l.any fun x => !p x) = !(l.all p) := by
  induction l with
  | nil => rfl
  | cons a l ih => simp [List.any_cons, List.all_cons, ih]
theorem c_message_list (kind : Int) (l : List Item) (hs : ItemsSmall l) {v : AV} (hv : IsItems v l) {H : AH} {K : AV → AH → Prop} (h : ∀ H', Ext H H' → K (.bool (listOk kind l)) H') : r_message_list [.int .i64 kind, v] H K := by
  have hll := hs.1
  -- behind the loop
  have fin : ∀ (v8 vn : AV) H', Ext H H' → IsSl 1 .str vn (l.map (·.t)) → LoopP (r_message_list_p116 K) [.int .i64 kind, v, vn, v8, .int .i64 l.length, .int .i64 l.length] H' := by
    intro v8 vn H' hx hvn
    refine .fold ?_
    have hlt : ¬ ((l.length : Int) < (l.length : Int)) := by omega
    have hlen : lenSl v = some (.int .i64 l.length) := by
      rcases hv with ⟨rfl, rfl⟩ | ⟨g, rfl⟩ <;> simp
    simp only [r_message_list_p116, abin_i_add, abin_i_sub, abin_i_mul, abin_i_eql, abin_i_neq, abin_i_lss, abin_i_leq, abin_i_gtr, abin_i_geq, abin_s_eql, abin_s_neq, bnd_some, bnd_none, branch_bool, gwant_bool, gwant_nothing, aguard_some, wantE_some, pickV_bool, nilck_ptr, nilck_elem, aoff_ptr, aoff_elem, aun_not, aun_neg, lenStr_str, lenSl_nils, lenSl_sl, lenSl_osl, aextract_tup, ld1uelem, idxStr_str, amin2uint, amax2uint, rangeStr_str, sliceStr_from, sliceStr_to, List.getElem?_cons_zero, List.getElem?_cons_succ, Option.map_some, Option.bind_some, Int.toNat_natCast, Int.toNat_zero, Int.le_refl, Bool.not_true, Bool.not_false, Bool.not_not, Bool.false_eq_true, if_true, if_false, decide_eq_true_eq, beq_self_eq_true, bool_ft, bool_tf, decide_true, decide_false, reduceCtorEq, cmpNil, cmpRes, boxCells, AV.known, AV.cells, Nat.zero_add, and_self, and_true, true_and, ite_self, forall_const, not_true_eq_false, not_false_eq_true, hlt]
    refine c_name_All _ (names_small hs) (by simpa using hll) hvn fun H1 hx1 => ?_
    have hx1' := hx.trans hx1
    simp only [listOk] at h
    simp only [abin_i_add, abin_i_sub, abin_i_mul, abin_i_eql, abin_i_neq, abin_i_lss, abin_i_leq, abin_i_gtr, abin_i_geq, abin_s_eql, abin_s_neq, bnd_some, bnd_none, branch_bool, gwant_bool, gwant_nothing, aguard_some, wantE_some, pickV_bool, nilck_ptr, nilck_elem, aoff_ptr, aoff_elem, aun_not, aun_neg, lenStr_str, lenSl_nils, lenSl_sl, lenSl_osl, aextract_tup, ld1uelem, idxStr_str, amin2uint, amax2uint, rangeStr_str, sliceStr_from, sliceStr_to, List.getElem?_cons_zero, List.getElem?_cons_succ, Option.map_some, Option.bind_some, Int.toNat_natCast, Int.toNat_zero, Int.le_refl, Bool.not_true, Bool.not_false, Bool.not_not, Bool.false_eq_true, if_true, if_false, decide_eq_true_eq, beq_self_eq_true, bool_ft, bool_tf, decide_true, decide_false, reduceCtorEq, cmpNil, cmpRes, boxCells, AV.known, AV.cells, Nat.zero_add, and_self, and_true, true_and, ite_self, forall_const, not_true_eq_false, not_false_eq_true, hlen]
    cases ha : allNames (l.map (·.t)) with
    | false =>
      have := h H1 hx1'
      rw [ha] at this
      simpa using this
    | true =>
      simp only [ha, Bool.true_and] at h
      by_cases h4 : l.length ≤ 4
      · have e4 : decide ((l.length : Int) > 4) = false := by simp; omega
        simp only [h4, decide_true, Bool.true_and] at h
        simp only [abin_i_add, abin_i_sub, abin_i_mul, abin_i_eql, abin_i_neq, abin_i_lss, abin_i_leq, abin_i_gtr, abin_i_geq, abin_s_eql, abin_s_neq, bnd_some, bnd_none, branch_bool, gwant_bool, gwant_nothing, aguard_some, wantE_some, pickV_bool, nilck_ptr, nilck_elem, aoff_ptr, aoff_elem, aun_not, aun_neg, lenStr_str, lenSl_nils, lenSl_sl, lenSl_osl, aextract_tup, ld1uelem, idxStr_str, amin2uint, amax2uint, rangeStr_str, sliceStr_from, sliceStr_to, List.getElem?_cons_zero, List.getElem?_cons_succ, Option.map_some, Option.bind_some, Int.toNat_natCast, Int.toNat_zero, Int.le_refl, Bool.not_true, Bool.not_false, Bool.not_not, Bool.false_eq_true, if_true, if_false, decide_eq_true_eq, beq_self_eq_true, bool_ft, bool_tf, decide_true, decide_false, reduceCtorEq, cmpNil, cmpRes, boxCells, AV.known, AV.cells, Nat.zero_add, and_self, and_true, true_and, ite_self, forall_const, not_true_eq_false, not_false_eq_true, e4]
        by_cases h5 : kind = 5
        · subst h5
          simp only [abin_i_add, abin_i_sub, abin_i_mul, abin_i_eql, abin_i_neq, abin_i_lss, abin_i_leq, abin_i_gtr, abin_i_geq, abin_s_eql, abin_s_neq, bnd_some, bnd_none, branch_bool, gwant_bool, gwant_nothing, aguard_some, wantE_some, pickV_bool, nilck_ptr, nilck_elem, aoff_ptr, aoff_elem, aun_not, aun_neg, lenStr_str, lenSl_nils, lenSl_sl, lenSl_osl, aextract_tup, ld1uelem, idxStr_str, amin2uint, amax2uint, rangeStr_str, sliceStr_from, sliceStr_to, List.getElem?_cons_zero, List.getElem?_cons_succ, Option.map_some, Option.bind_some, Int.toNat_natCast, Int.toNat_zero, Int.le_refl, Bool.not_true, Bool.not_false, Bool.not_not, Bool.false_eq_true, if_true, if_false, decide_eq_true_eq, beq_self_eq_true, bool_ft, bool_tf, decide_true, decide_false, reduceCtorEq, cmpNil, cmpRes, boxCells, AV.known, AV.cells, Nat.zero_add, and_self, and_true, true_and, ite_self, forall_const, not_true_eq_false, not_false_eq_true]
          refine c_ContainsFunc_items (p := fun i => !(i.a == 0 && i.b == 0)) hv (fun i hi H K hk => ?_) hll fun H2 hx2 => ?_
          · simp only [acallv, tabL, List.nil_append, List.append_nil, Nat.reduceBEq, cond_true, cond_false, bnd_some]
            exact c_list_1 i (hs.2 i hi) hk
          · have := h H2 (hx1'.trans hx2)
            simp only [abin_i_add, abin_i_sub, abin_i_mul, abin_i_eql, abin_i_neq, abin_i_lss, abin_i_leq, abin_i_gtr, abin_i_geq, abin_s_eql, abin_s_neq, bnd_some, bnd_none, branch_bool, gwant_bool, gwant_nothing, aguard_some, wantE_some, pickV_bool, nilck_ptr, nilck_elem, aoff_ptr, aoff_elem, aun_not, aun_neg, lenStr_str, lenSl_nils, lenSl_sl, lenSl_osl, aextract_tup, ld1uelem, idxStr_str, amin2uint, amax2uint, rangeStr_str, sliceStr_from, sliceStr_to, List.getElem?_cons_zero, List.getElem?_cons_succ, Option.map_some, Option.bind_some, Int.toNat_natCast, Int.toNat_zero, Int.le_refl, Bool.not_true, Bool.not_false, Bool.not_not, Bool.false_eq_true, if_true, if_false, decide_eq_true_eq, beq_self_eq_true, bool_ft, bool_tf, decide_true, decide_false, reduceCtorEq, cmpNil, cmpRes, boxCells, AV.known, AV.cells, Nat.zero_add, and_self, and_true, true_and, ite_self, forall_const, not_true_eq_false, not_false_eq_true, any_not]
            simpa using this
        · have e5 : (kind == 5) = false := by simpa using h5
          simp only [h5, if_false] at h
          simp only [abin_i_add, abin_i_sub, abin_i_mul, abin_i_eql, abin_i_neq, abin_i_lss, abin_i_leq, abin_i_gtr, abin_i_geq, abin_s_eql, abin_s_neq, bnd_some, bnd_none, branch_bool, gwant_bool, gwant_nothing, aguard_some, wantE_some, pickV_bool, nilck_ptr, nilck_elem, aoff_ptr, aoff_elem, aun_not, aun_neg, lenStr_str, lenSl_nils, lenSl_sl, lenSl_osl, aextract_tup, ld1uelem, idxStr_str, amin2uint, amax2uint, rangeStr_str, sliceStr_from, sliceStr_to, List.getElem?_cons_zero, List.getElem?_cons_succ, Option.map_some, Option.bind_some, Int.toNat_natCast, Int.toNat_zero, Int.le_refl, Bool.not_true, Bool.not_false, Bool.not_not, Bool.false_eq_true, if_true, if_false, decide_eq_true_eq, beq_self_eq_true, bool_ft, bool_tf, decide_true, decide_false, reduceCtorEq, cmpNil, cmpRes, boxCells, AV.known, AV.cells, Nat.zero_add, and_self, and_true, true_and, ite_self, forall_const, not_true_eq_false, not_false_eq_true, e5]
          refine c_ContainsFunc_items (p := fun i => !(needOk i.a i.b)) hv (fun i hi H K hk => ?_) hll fun H2 hx2 => ?_
          · simp only [acallv, tabL, List.nil_append, List.append_nil, Nat.reduceBEq, cond_true, cond_false, bnd_some]
            exact c_list_2 i (hs.2 i hi) hk
          · have := h H2 (hx1'.trans hx2)
            simp only [abin_i_add, abin_i_sub, abin_i_mul, abin_i_eql, abin_i_neq, abin_i_lss, abin_i_leq, abin_i_gtr, abin_i_geq, abin_s_eql, abin_s_neq, bnd_some, bnd_none, branch_bool, gwant_bool, gwant_nothing, aguard_some, wantE_some, pickV_bool, nilck_ptr, nilck_elem, aoff_ptr, aoff_elem, aun_not, aun_neg, lenStr_str, lenSl_nils, lenSl_sl, lenSl_osl, aextract_tup, ld1uelem, idxStr_str, amin2uint, amax2uint, rangeStr_str, sliceStr_from, sliceStr_to, List.getElem?_cons_zero, List.getElem?_cons_succ, Option.map_some, Option.bind_some, Int.toNat_natCast, Int.toNat_zero, Int.le_refl, Bool.not_true, Bool.not_false, Bool.not_not, Bool.false_eq_true, if_true, if_false, decide_eq_true_eq, beq_self_eq_true, bool_ft, bool_tf, decide_true, decide_false, reduceCtorEq, cmpNil, cmpRes, boxCells, AV.known, AV.cells, Nat.zero_add, and_self, and_true, true_and, ite_self, forall_const, not_true_eq_false, not_false_eq_true, any_not]
            cases hn : l.all fun i => needOk i.a i.b with
            | false => rw [hn] at this; simpa using this
            | true =>
              rw [hn] at this
              simp only [Bool.true_and] at this
              simp only [abin_i_add, abin_i_sub, abin_i_mul, abin_i_eql, abin_i_neq, abin_i_lss, abin_i_leq, abin_i_gtr, abin_i_geq, abin_s_eql, abin_s_neq, bnd_some, bnd_none, branch_bool, gwant_bool, gwant_nothing, aguard_some, wantE_some, pickV_bool, nilck_ptr, nilck_elem, aoff_ptr, aoff_elem, aun_not, aun_neg, lenStr_str, lenSl_nils, lenSl_sl, lenSl_osl, aextract_tup, ld1uelem, idxStr_str, amin2uint, amax2uint, rangeStr_str, sliceStr_from, sliceStr_to, List.getElem?_cons_zero, List.getElem?_cons_succ, Option.map_some, Option.bind_some, Int.toNat_natCast, Int.toNat_zero, Int.le_refl, Bool.not_true, Bool.not_false, Bool.not_not, Bool.false_eq_true, if_true, if_false, decide_eq_true_eq, beq_self_eq_true, bool_ft, bool_tf, decide_true, decide_false, reduceCtorEq, cmpNil, cmpRes, boxCells, AV.known, AV.cells, Nat.zero_add, and_self, and_true, true_and, ite_self, forall_const, not_true_eq_false, not_false_eq_true, hlen]
              by_cases h1 : l.length = 1
              · have e1 : ((l.length : Int) == 1) = true := by simp; omega
                simp only [abin_i_add, abin_i_sub, abin_i_mul, abin_i_eql, abin_i_neq, abin_i_lss, abin_i_leq, abin_i_gtr, abin_i_geq, abin_s_eql, abin_s_neq, bnd_some, bnd_none, branch_bool, gwant_bool, gwant_nothing, aguard_some, wantE_some, pickV_bool, nilck_ptr, nilck_elem, aoff_ptr, aoff_elem, aun_not, aun_neg, lenStr_str, lenSl_nils, lenSl_sl, lenSl_osl, aextract_tup, ld1uelem, idxStr_str, amin2uint, amax2uint, rangeStr_str, sliceStr_from, sliceStr_to, List.getElem?_cons_zero, List.getElem?_cons_succ, Option.map_some, Option.bind_some, Int.toNat_natCast, Int.toNat_zero, Int.le_refl, Bool.not_true, Bool.not_false, Bool.not_not, Bool.false_eq_true, if_true, if_false, decide_eq_true_eq, beq_self_eq_true, bool_ft, bool_tf, decide_true, decide_false, reduceCtorEq, cmpNil, cmpRes, boxCells, AV.known, AV.cells, Nat.zero_add, and_self, and_true, true_and, ite_self, forall_const, not_true_eq_false, not_false_eq_true, e1]
                simpa [h1] using this
              · have e1 : ((l.length : Int) == 1) = false := by simp; omega
                simp only [abin_i_add, abin_i_sub, abin_i_mul, abin_i_eql, abin_i_neq, abin_i_lss, abin_i_leq, abin_i_gtr, abin_i_geq, abin_s_eql, abin_s_neq, bnd_some, bnd_none, branch_bool, gwant_bool, gwant_nothing, aguard_some, wantE_some, pickV_bool, nilck_ptr, nilck_elem, aoff_ptr, aoff_elem, aun_not, aun_neg, lenStr_str, lenSl_nils, lenSl_sl, lenSl_osl, aextract_tup, ld1uelem, idxStr_str, amin2uint, amax2uint, rangeStr_str, sliceStr_from, sliceStr_to, List.getElem?_cons_zero, List.getElem?_cons_succ, Option.map_some, Option.bind_some, Int.toNat_natCast, Int.toNat_zero, Int.le_refl, Bool.not_true, Bool.not_false, Bool.not_not, Bool.false_eq_true, if_true, if_false, decide_eq_true_eq, beq_self_eq_true, bool_ft, bool_tf, decide_true, decide_false, reduceCtorEq, cmpNil, cmpRes, boxCells, AV.known, AV.cells, Nat.zero_add, and_self, and_true, true_and, ite_self, forall_const, not_true_eq_false, not_false_eq_true, e1, hlen]
                by_cases hk1 : kind = 1
                · subst hk1
                  have e0 : decide ((l.length : Int) > 0) = decide (0 < l.length) := by rw [decide_eq_decide]; omega
                  simp only [abin_i_add, abin_i_sub, abin_i_mul, abin_i_eql, abin_i_neq, abin_i_lss, abin_i_leq, abin_i_gtr, abin_i_geq, abin_s_eql, abin_s_neq, bnd_some, bnd_none, branch_bool, gwant_bool, gwant_nothing, aguard_some, wantE_some, pickV_bool, nilck_ptr, nilck_elem, aoff_ptr, aoff_elem, aun_not, aun_neg, lenStr_str, lenSl_nils, lenSl_sl, lenSl_osl, aextract_tup, ld1uelem, idxStr_str, amin2uint, amax2uint, rangeStr_str, sliceStr_from, sliceStr_to, List.getElem?_cons_zero, List.getElem?_cons_succ, Option.map_some, Option.bind_some, Int.toNat_natCast, Int.toNat_zero, Int.le_refl, Bool.not_true, Bool.not_false, Bool.not_not, Bool.false_eq_true, if_true, if_false, decide_eq_true_eq, beq_self_eq_true, bool_ft, bool_tf, decide_true, decide_false, reduceCtorEq, cmpNil, cmpRes, boxCells, AV.known, AV.cells, Nat.zero_add, and_self, and_true, true_and, ite_self, forall_const, not_true_eq_false, not_false_eq_true, e0]
                  simpa [h1] using this
                · have ek : (kind == 1) = false := by simpa using hk1
                  simp only [abin_i_add, abin_i_sub, abin_i_mul, abin_i_eql, abin_i_neq, abin_i_lss, abin_i_leq, abin_i_gtr, abin_i_geq, abin_s_eql, abin_s_neq, bnd_some, bnd_none, branch_bool, gwant_bool, gwant_nothing, aguard_some, wantE_some, pickV_bool, nilck_ptr, nilck_elem, aoff_ptr, aoff_elem, aun_not, aun_neg, lenStr_str, lenSl_nils, lenSl_sl, lenSl_osl, aextract_tup, ld1uelem, idxStr_str, amin2uint, amax2uint, rangeStr_str, sliceStr_from, sliceStr_to, List.getElem?_cons_zero, List.getElem?_cons_succ, Option.map_some, Option.bind_some, Int.toNat_natCast, Int.toNat_zero, Int.le_refl, Bool.not_true, Bool.not_false, Bool.not_not, Bool.false_eq_true, if_true, if_false, decide_eq_true_eq, beq_self_eq_true, bool_ft, bool_tf, decide_true, decide_false, reduceCtorEq, cmpNil, cmpRes, boxCells, AV.known, AV.cells, Nat.zero_add, and_self, and_true, true_and, ite_self, forall_const, not_true_eq_false, not_false_eq_true, ek]
                  simpa [h1, hk1] using this
      · have e4 : decide ((l.length : Int) > 4) = true := by simp; omega
        have := h H1 hx1'
        simp only [h4, decide_false, Bool.false_and] at this
        simpa only [abin_i_add, abin_i_sub, abin_i_mul, abin_i_eql, abin_i_neq, abin_i_lss, abin_i_leq, abin_i_gtr, abin_i_geq, abin_s_eql, abin_s_neq, bnd_some, bnd_none, branch_bool, gwant_bool, gwant_nothing, aguard_some, wantE_some, pickV_bool, nilck_ptr, nilck_elem, aoff_ptr, aoff_elem, aun_not, aun_neg, lenStr_str, lenSl_nils, lenSl_sl, lenSl_osl, aextract_tup, ld1uelem, idxStr_str, amin2uint, amax2uint, rangeStr_str, sliceStr_from, sliceStr_to, List.getElem?_cons_zero, List.getElem?_cons_succ, Option.map_some, Option.bind_some, Int.toNat_natCast, Int.toNat_zero, Int.le_refl, Bool.not_true, Bool.not_false, Bool.not_not, Bool.false_eq_true, if_true, if_false, decide_eq_true_eq, beq_self_eq_true, bool_ft, bool_tf, decide_true, decide_false, reduceCtorEq, cmpNil, cmpRes, boxCells, AV.known, AV.cells, Nat.zero_add, and_self, and_true, true_and, ite_self, forall_const, not_true_eq_false, not_false_eq_true, e4] using this
  rcases hv with ⟨rfl, rfl⟩ | ⟨g, rfl⟩
  · simp only [r_message_list, abin_i_add, abin_i_sub, abin_i_mul, abin_i_eql, abin_i_neq, abin_i_lss, abin_i_leq, abin_i_gtr, abin_i_geq, abin_s_eql, abin_s_neq, bnd_some, bnd_none, branch_bool, gwant_bool, gwant_nothing, aguard_some, wantE_some, pickV_bool, nilck_ptr, nilck_elem, aoff_ptr, aoff_elem, aun_not, aun_neg, lenStr_str, lenSl_nils, lenSl_sl, lenSl_osl, aextract_tup, ld1uelem, idxStr_str, amin2uint, amax2uint, rangeStr_str, sliceStr_from, sliceStr_to, List.getElem?_cons_zero, List.getElem?_cons_succ, Option.map_some, Option.bind_some, Int.toNat_natCast, Int.toNat_zero, Int.le_refl, Bool.not_true, Bool.not_false, Bool.not_not, Bool.false_eq_true, if_true, if_false, decide_eq_true_eq, beq_self_eq_true, bool_ft, bool_tf, decide_true, decide_false, reduceCtorEq, cmpNil, cmpRes, boxCells, AV.known, AV.cells, Nat.zero_add, and_self, and_true, true_and, ite_self, forall_const, not_true_eq_false, not_false_eq_true]
    exact fin .nils .nils H (Ext.refl H) (.inl ⟨rfl, rfl⟩)
  · simp only [r_message_list, abin_i_add, abin_i_sub, abin_i_mul, abin_i_eql, abin_i_neq, abin_i_lss, abin_i_leq, abin_i_gtr, abin_i_geq, abin_s_eql, abin_s_neq, bnd_some, bnd_none, branch_bool, gwant_bool, gwant_nothing, aguard_some, wantE_some, pickV_bool, nilck_ptr, nilck_elem, aoff_ptr, aoff_elem, aun_not, aun_neg, lenStr_str, lenSl_nils, lenSl_sl, lenSl_osl, aextract_tup, ld1uelem, idxStr_str, amin2uint, amax2uint, rangeStr_str, sliceStr_from, sliceStr_to, List.getElem?_cons_zero, List.getElem?_cons_succ, Option.map_some, Option.bind_some, Int.toNat_natCast, Int.toNat_zero, Int.le_refl, Bool.not_true, Bool.not_false, Bool.not_not, Bool.false_eq_true, if_true, if_false, decide_eq_true_eq, beq_self_eq_true, bool_ft, bool_tf, decide_true, decide_false, reduceCtorEq, cmpNil, cmpRes, boxCells, AV.known, AV.cells, Nat.zero_add, and_self, and_true, true_and, ite_self, forall_const, not_true_eq_false, not_false_eq_true, List.length_map]
    refine c_list_loop kind l hs (fun vn H' hx hvn => fin _ vn H' hx hvn) l 0 .nils H rfl (.inl ⟨rfl, rfl⟩) (Ext.refl H) (Nat.zero_le _)
end Go.Va
