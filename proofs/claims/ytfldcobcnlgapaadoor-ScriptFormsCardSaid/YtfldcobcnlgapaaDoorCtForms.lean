/-
  Contracts: the statement on forms of lines.
-/
import Derived.Test.YtfldcobcnlgapaaDoorCtWakes
set_option linter.unusedVariables false
set_option linter.unusedSimpArgs false
set_option maxRecDepth 100000
namespace Go.Va
def EntR (e : AV) (x : Bs × Step) : Prop := ∃ iv, e = .agg (.str x.1 :: stepCells x.2 iv) ∧ IsItems iv x.2.msg.items
theorem Rel2.at_ {α : Type} {R : AV → α → Prop} {es : List AV} {l : List α} (h : Rel2 R es l) {i : Nat} {s : α} (hs : l[i]? = some s) : ∃ e, es[i]? = some e ∧ R e s := by
  have hlt : i < es.length := by rw [h.1]; exact (List.getElem?_eq_some_iff.1 hs).1
  exact ⟨_, List.getElem?_eq_getElem hlt, h.2 i _ s (List.getElem?_eq_getElem hlt) hs⟩
section
variable {ct : Tab} {K : AV → AH → Prop} {H0 : AH}
theorem c_forms_bad (ts : List Bs) (hts : ∀ t ∈ ts, parseS t = none ∧ t.length ≤ 1000000) (hl : ts.length ≤ 1000000) {g : Grow} (h : ∀ H', Ext H0 H' → K (.bool true) H') :
    ∀ (r : List Bs) (i : Nat) (H : AH), ts.drop i = r → Ext H0 H → LoopP (r_hostlerlaw21uScriptForms_p1012 ct K) [.sl g 1 (ts.map .str), .int .i64 ts.length, .int .i64 i] H
  | [], i, H, hr, hx => by
    refine .fold ?_
    have hi : ts.length ≤ i := by simpa using hr
    have hlt : ¬ ((i : Int) < (ts.length : Int)) := by omega
    simp only [r_hostlerlaw21uScriptForms_p1012, abin_i_add, abin_i_sub, abin_i_mul, abin_i_eql, abin_i_neq, abin_i_lss, abin_i_leq, abin_i_gtr, abin_i_geq, abin_s_eql, abin_s_neq, bnd_some, bnd_none, branch_bool, gwant_bool, gwant_nothing, aguard_some, wantE_some, pickV_bool, nilck_ptr, nilck_elem, aoff_ptr, aoff_elem, aun_not, aun_neg, lenStr_str, lenSl_nils, lenSl_sl, lenSl_osl, aextract_tup, ld1uelem, idxStr_str, amin2uint, amax2uint, rangeStr_str, sliceStr_from, sliceStr_to, List.getElem?_cons_zero, List.getElem?_cons_succ, Option.map_some, Option.bind_some, Int.toNat_natCast, Int.toNat_zero, Int.le_refl, Bool.not_true, Bool.not_false, Bool.not_not, Bool.false_eq_true, if_true, if_false, decide_eq_true_eq, beq_self_eq_true, bool_ft, bool_tf, decide_true, decide_false, reduceCtorEq, cmpNil, cmpRes, boxCells, AV.known, AV.cells, Nat.zero_add, and_self, and_true, true_and, ite_self, forall_const, not_true_eq_false, not_false_eq_true, hlt]
    exact c_wakes fun H1 hx1 => h H1 (hx.trans hx1)
  | t :: r, i, H, hr, hx => by
    refine .fold ?_
    have ht : ts[i]? = some t := by
      have := congrArg (fun l => l[0]?) hr
      simpa using this
    have hlt : i < ts.length := (List.getElem?_eq_some_iff.1 ht).1
    have hr' : ts.drop (i + 1) = r := by rw [← List.drop_drop, hr]; rfl
    have h1 : ((i : Int) < (ts.length : Int)) := by omega
    have h2 : (0 : Int) ≤ (i : Int) := by omega
    have hww : IntKind.i64.wrap ((i : Int) + 1) = ((i + 1 : Nat) : Int) := by rw [wrap_i64 (by omega) (by omega)]; omega
    have hgi : (ts.map AV.str)[i]? = some (.str t) := by simp [ht]
    obtain ⟨hn, htl⟩ := hts t (List.mem_of_getElem? ht)
    simp only [r_hostlerlaw21uScriptForms_p1012, abin_i_add, abin_i_sub, abin_i_mul, abin_i_eql, abin_i_neq, abin_i_lss, abin_i_leq, abin_i_gtr, abin_i_geq, abin_s_eql, abin_s_neq, bnd_some, bnd_none, branch_bool, gwant_bool, gwant_nothing, aguard_some, wantE_some, pickV_bool, nilck_ptr, nilck_elem, aoff_ptr, aoff_elem, aun_not, aun_neg, lenStr_str, lenSl_nils, lenSl_sl, lenSl_osl, aextract_tup, ld1uelem, idxStr_str, amin2uint, amax2uint, rangeStr_str, sliceStr_from, sliceStr_to, List.getElem?_cons_zero, List.getElem?_cons_succ, Option.map_some, Option.bind_some, Int.toNat_natCast, Int.toNat_zero, Int.le_refl, Bool.not_true, Bool.not_false, Bool.not_not, Bool.false_eq_true, if_true, if_false, decide_eq_true_eq, beq_self_eq_true, bool_ft, bool_tf, decide_true, decide_false, reduceCtorEq, cmpNil, cmpRes, boxCells, AV.known, AV.cells, Nat.zero_add, and_self, and_true, true_and, ite_self, forall_const, not_true_eq_false, not_false_eq_true, h1, idxA, h2, hgi]
    refine c_script_Parse t (by omega) (fun l hl => by rw [hn] at hl; cases hl) fun _ H1 hx1 => ?_
    simp only [abin_i_add, abin_i_sub, abin_i_mul, abin_i_eql, abin_i_neq, abin_i_lss, abin_i_leq, abin_i_gtr, abin_i_geq, abin_s_eql, abin_s_neq, bnd_some, bnd_none, branch_bool, gwant_bool, gwant_nothing, aguard_some, wantE_some, pickV_bool, nilck_ptr, nilck_elem, aoff_ptr, aoff_elem, aun_not, aun_neg, lenStr_str, lenSl_nils, lenSl_sl, lenSl_osl, aextract_tup, ld1uelem, idxStr_str, amin2uint, amax2uint, rangeStr_str, sliceStr_from, sliceStr_to, List.getElem?_cons_zero, List.getElem?_cons_succ, Option.map_some, Option.bind_some, Int.toNat_natCast, Int.toNat_zero, Int.le_refl, Bool.not_true, Bool.not_false, Bool.not_not, Bool.false_eq_true, if_true, if_false, decide_eq_true_eq, beq_self_eq_true, bool_ft, bool_tf, decide_true, decide_false, reduceCtorEq, cmpNil, cmpRes, boxCells, AV.known, AV.cells, Nat.zero_add, and_self, and_true, true_and, ite_self, forall_const, not_true_eq_false, not_false_eq_true, show ((2 : Int) != 2) = false from rfl, show ((0 : Int) != 0) = false from rfl, hww]
    exact c_forms_bad ts hts hl h r (i + 1) H1 hr' (hx.trans hx1)
theorem c_forms_good (xs : List (Bs × Step)) (hxs : ∀ x ∈ xs, parseS x.1 = some [x.2] ∧ x.1.length ≤ 1000000 ∧ MsgSmall x.2.msg) (hl : xs.length ≤ 1000000) {g : Grow} {es : List AV} (hr2 : Rel2 EntR es xs)
    (h : ∀ H', Ext H0 H' → LoopP (r_hostlerlaw21uScriptForms_p500 ct K) [.sl g 13 es, .int .i64 xs.length, .int .i64 xs.length] H') :
    ∀ (r : List (Bs × Step)) (i : Nat) (H : AH), xs.drop i = r → i ≤ xs.length → Ext H0 H → LoopP (r_hostlerlaw21uScriptForms_p500 ct K) [.sl g 13 es, .int .i64 xs.length, .int .i64 i] H
  | [], i, H, hr, hil, hx => by
    have hi : xs.length ≤ i := by simpa using hr
    obtain rfl : i = xs.length := by omega
    exact h H hx
  | x :: r, i, H, hr, hil, hx => by
    refine .fold ?_
    have ht : xs[i]? = some x := by
      have := congrArg (fun l => l[0]?) hr
      simpa using this
    have hlt : i < xs.length := (List.getElem?_eq_some_iff.1 ht).1
    have hr' : xs.drop (i + 1) = r := by rw [← List.drop_drop, hr]; rfl
    have h1 : ((i : Int) < (xs.length : Int)) := by omega
    have h2 : (0 : Int) ≤ (i : Int) := by omega
    have hww : IntKind.i64.wrap ((i : Int) + 1) = ((i + 1 : Nat) : Int) := by rw [wrap_i64 (by omega) (by omega)]; omega
    obtain ⟨e, he, iv, rfl, hiv⟩ := hr2.at_ ht
    obtain ⟨hp, hxl, hms⟩ := hxs x (List.mem_of_getElem? ht)
    have hld : ldN 13 (.elem (.str x.1 :: stepCells x.2 iv) 0) H = some (.agg (.str x.1 :: stepCells x.2 iv)) := rfl
    have hone : (AV.str x.1 :: stepCells x.2 iv).all AV.one = true := by
      rw [List.all_cons, stepCells_one x.2 hiv.one]; rfl
    have hast : ast 13 (.ptr H.next 0) (.agg (.str x.1 :: stepCells x.2 iv)) (H.add (.cells (.str [] :: step0))) = some (H.add (.cells (.str x.1 :: stepCells x.2 iv))) := by
      have := ast_all (cs := .str x.1 :: stepCells x.2 iv) (get_add_self H (.cells (.str [] :: step0))) rfl hone
      rw [add_put] at this; exact this
    have hobj := get_add_self H (.cells (.str x.1 :: stepCells x.2 iv))
    have e0 : (AV.str x.1 :: stepCells x.2 iv)[0]? = some (.str x.1) := rfl
    have e00 : [AV.str [], .int .i64 0, .int .i64 0, .str [], .str [], .str [], .int .i64 0, .int .i64 0, .int .i64 0, .int .i64 0, .nils, .int .i64 0, .int .i64 0] = .str [] :: step0 := rfl
    simp only [r_hostlerlaw21uScriptForms_p500, abin_i_add, abin_i_sub, abin_i_mul, abin_i_eql, abin_i_neq, abin_i_lss, abin_i_leq, abin_i_gtr, abin_i_geq, abin_s_eql, abin_s_neq, bnd_some, bnd_none, branch_bool, gwant_bool, gwant_nothing, aguard_some, wantE_some, pickV_bool, nilck_ptr, nilck_elem, aoff_ptr, aoff_elem, aun_not, aun_neg, lenStr_str, lenSl_nils, lenSl_sl, lenSl_osl, aextract_tup, ld1uelem, idxStr_str, amin2uint, amax2uint, rangeStr_str, sliceStr_from, sliceStr_to, List.getElem?_cons_zero, List.getElem?_cons_succ, Option.map_some, Option.bind_some, Int.toNat_natCast, Int.toNat_zero, Int.le_refl, Bool.not_true, Bool.not_false, Bool.not_not, Bool.false_eq_true, if_true, if_false, decide_eq_true_eq, beq_self_eq_true, bool_ft, bool_tf, decide_true, decide_false, reduceCtorEq, cmpNil, cmpRes, boxCells, AV.known, AV.cells, Nat.zero_add, and_self, and_true, true_and, ite_self, forall_const, not_true_eq_false, not_false_eq_true, h1, idxA, h2, he, hld, e00, hast, ld1uptr hobj, e0]
    refine c_script_Parse x.1 (by omega) (fun l hl H1 v hx1 hv => ?_) (fun hn => by rw [hp] at hn; cases hn)
    rw [hp] at hl
    cases hl
    obtain ⟨vs, hsl, hrv⟩ := hv
    obtain ⟨e1, rfl⟩ : ∃ e, vs = [e] := by
      have := hrv.1
      match vs, this with
      | [e], _ => exact ⟨e, rfl⟩
    obtain ⟨iv2, rfl, hiv2⟩ := hrv.2 0 e1 _ rfl rfl
    rcases hsl with ⟨_, h0⟩ | ⟨g2, rfl⟩
    · cases h0
    have hobj1 := hx1.get_lt (by simp) hobj
    have ei : idxA 12 (.sl g2 12 ([AV.agg (stepCells x.2 iv2)].map id)) (.int .i64 0) = some (.elem (stepCells x.2 iv2) 0) := by
      simp [idxA, AV.known, AV.cells]
    have hlen : (((([AV.agg (stepCells x.2 iv2)].map id).length : Nat) : Int) != 1) = false := rfl
    have hl1 : ldN 12 (.elem (stepCells x.2 iv2) 0) H1 = some (.agg (stepCells x.2 iv2)) := rfl
    have hl2 : ldN 12 (.ptr H.next 1) H1 = some (.agg (stepCells x.2 iv)) := by
      rw [ldN_ptr hobj1 12 1 (by show 1 + 12 ≤ 13; omega)]; rfl
    simp only [abin_i_add, abin_i_sub, abin_i_mul, abin_i_eql, abin_i_neq, abin_i_lss, abin_i_leq, abin_i_gtr, abin_i_geq, abin_s_eql, abin_s_neq, bnd_some, bnd_none, branch_bool, gwant_bool, gwant_nothing, aguard_some, wantE_some, pickV_bool, nilck_ptr, nilck_elem, aoff_ptr, aoff_elem, aun_not, aun_neg, lenStr_str, lenSl_nils, lenSl_sl, lenSl_osl, aextract_tup, ld1uelem, idxStr_str, amin2uint, amax2uint, rangeStr_str, sliceStr_from, sliceStr_to, List.getElem?_cons_zero, List.getElem?_cons_succ, Option.map_some, Option.bind_some, Int.toNat_natCast, Int.toNat_zero, Int.le_refl, Bool.not_true, Bool.not_false, Bool.not_not, Bool.false_eq_true, if_true, if_false, decide_eq_true_eq, beq_self_eq_true, bool_ft, bool_tf, decide_true, decide_false, reduceCtorEq, cmpNil, cmpRes, boxCells, AV.known, AV.cells, Nat.zero_add, and_self, and_true, true_and, ite_self, forall_const, not_true_eq_false, not_false_eq_true, show ((0 : Int) != 0) = false from rfl, hlen, ei, hl1, hl2]
    refine c_SameStep x.2 x.2 hms hms hiv2 hiv fun H2 hx2 => ?_
    simp only [abin_i_add, abin_i_sub, abin_i_mul, abin_i_eql, abin_i_neq, abin_i_lss, abin_i_leq, abin_i_gtr, abin_i_geq, abin_s_eql, abin_s_neq, bnd_some, bnd_none, branch_bool, gwant_bool, gwant_nothing, aguard_some, wantE_some, pickV_bool, nilck_ptr, nilck_elem, aoff_ptr, aoff_elem, aun_not, aun_neg, lenStr_str, lenSl_nils, lenSl_sl, lenSl_osl, aextract_tup, ld1uelem, idxStr_str, amin2uint, amax2uint, rangeStr_str, sliceStr_from, sliceStr_to, List.getElem?_cons_zero, List.getElem?_cons_succ, Option.map_some, Option.bind_some, Int.toNat_natCast, Int.toNat_zero, Int.le_refl, Bool.not_true, Bool.not_false, Bool.not_not, Bool.false_eq_true, if_true, if_false, decide_eq_true_eq, beq_self_eq_true, bool_ft, bool_tf, decide_true, decide_false, reduceCtorEq, cmpNil, cmpRes, boxCells, AV.known, AV.cells, Nat.zero_add, and_self, and_true, true_and, ite_self, forall_const, not_true_eq_false, not_false_eq_true, hww]
    exact c_forms_good xs hxs hl hr2 h r (i + 1) H2 hr' (by omega) (((hx.add _).trans hx1).trans hx2)
end
end Go.Va
