/-
  Texts of this claim, one behind the other: what each holds stands at its head.
-/
import Derived.Test.YtfldcobcnlgapaaGreatDoorCtSplitPk
/-
  Contracts: may a message be?
-/
set_option linter.unusedVariables false
set_option linter.unusedSimpArgs false
set_option maxRecDepth 100000
namespace Go.Va
theorem any_toNat (fs : Bs) (f : UInt8) : (fs.any fun c => (c.toNat : Int) == (f.toNat : Int)) = fs.contains f := by
  rw [Bool.eq_iff_iff, List.any_eq_true, List.contains_iff_mem]
  constructor
  · rintro ⟨c, hc, h⟩
    have : c = f := UInt8.toNat_inj.1 (by have : (c.toNat : Int) = f.toNat := by simpa using h
                                          omega)
    exact this ▸ hc
  · intro h; exact ⟨f, h, by simp⟩
theorem c_holds (fs : Bs) (hs : ∀ c ∈ fs, c.toNat < 128) (f : UInt8) {H : AH} {K : AV → AH → Prop} (h : ∀ H', Ext H H' → K (.bool (fs.contains f)) H') : r_message_holds [.str fs, .int .i32 f.toNat] H K :=
  c_message_holds fs hs f.toNat fun H' hx => by rw [any_toNat]; exact h H' hx
theorem index_contains (fs : Bs) (c : UInt8) : decide (0 ≤ Lib.indexByte fs c) = fs.contains c := by
  rw [Bool.eq_iff_iff, List.contains_iff_mem, decide_eq_true_eq]
  rcases index_cases fs c with ⟨h1, h2⟩ | ⟨a, b, rfl, h1, h2⟩
  · rw [h2]; simp [h1]
  · rw [h2]; simp
def MsgSmall (m : Msg) : Prop := m.f.length ≤ 1000000000 ∧ m.e.length ≤ 1000000000 ∧ m.t.length ≤ 1000000000 ∧ ItemsSmall m.items
theorem c_message_Check (m : Msg) (hm : MsgSmall m) {iv : AV} (hv : IsItems iv m.items) {H : AH} {K : AV → AH → Prop} (h : ∀ H', Ext H H' → K (.int .i64 (if checkM m then 0 else 1)) H') : r_message_Check [.agg (msgCells m iv)] H K := by
  obtain ⟨hf, he, ht, hit⟩ := hm
  have hiv1 : iv.one = true := by rcases hv with ⟨rfl, _⟩ | ⟨g, rfl⟩ <;> rfl
  have hlen : lenSl iv = some (.int .i64 m.items.length) := by
    rcases hv with ⟨rfl, h0⟩ | ⟨g, rfl⟩
    · rw [h0]; rfl
    · simp
  simp only [r_message_Check, abin_i_add, abin_i_sub, abin_i_mul, abin_i_eql, abin_i_neq, abin_i_lss, abin_i_leq, abin_i_gtr, abin_i_geq, abin_s_eql, abin_s_neq, bnd_some, bnd_none, branch_bool, gwant_bool, gwant_nothing, aguard_some, wantE_some, pickV_bool, nilck_ptr, nilck_elem, aoff_ptr, aoff_elem, aun_not, aun_neg, lenStr_str, lenSl_nils, lenSl_sl, lenSl_osl, aextract_tup, ld1uelem, idxStr_str, amin2uint, amax2uint, rangeStr_str, sliceStr_from, sliceStr_to, List.getElem?_cons_zero, List.getElem?_cons_succ, Option.map_some, Option.bind_some, Int.toNat_natCast, Int.toNat_zero, Int.le_refl, Bool.not_true, Bool.not_false, Bool.not_not, Bool.false_eq_true, if_true, if_false, decide_eq_true_eq, beq_self_eq_true, bool_ft, bool_tf, decide_true, decide_false, reduceCtorEq, cmpNil, cmpRes, boxCells, AV.known, AV.cells, Nat.zero_add, and_self, and_true, true_and, ite_self, forall_const, not_true_eq_false, not_false_eq_true]
  have hg0 := get_add_self H (.cells (msgCells m iv))
  have e0 : (msgCells m iv)[0]? = some (.int .i64 m.kind) := rfl
  simp only [ld1uptr hg0, e0, abin_i_add, abin_i_sub, abin_i_mul, abin_i_eql, abin_i_neq, abin_i_lss, abin_i_leq, abin_i_gtr, abin_i_geq, abin_s_eql, abin_s_neq, bnd_some, bnd_none, branch_bool, gwant_bool, gwant_nothing, aguard_some, wantE_some, pickV_bool, nilck_ptr, nilck_elem, aoff_ptr, aoff_elem, aun_not, aun_neg, lenStr_str, lenSl_nils, lenSl_sl, lenSl_osl, aextract_tup, ld1uelem, idxStr_str, amin2uint, amax2uint, rangeStr_str, sliceStr_from, sliceStr_to, List.getElem?_cons_zero, List.getElem?_cons_succ, Option.map_some, Option.bind_some, Int.toNat_natCast, Int.toNat_zero, Int.le_refl, Bool.not_true, Bool.not_false, Bool.not_not, Bool.false_eq_true, if_true, if_false, decide_eq_true_eq, beq_self_eq_true, bool_ft, bool_tf, decide_true, decide_false, reduceCtorEq, cmpNil, cmpRes, boxCells, AV.known, AV.cells, Nat.zero_add, and_self, and_true, true_and, ite_self, forall_const, not_true_eq_false, not_false_eq_true]
  refine c_message_Fields m.kind ?_
  have hx0 : Ext H (H.add (.cells (msgCells m iv))) := (Ext.refl H).add _
  have hcell : ∀ H', Ext (H.add (.cells (msgCells m iv))) H' → H'.get H.next = some (.cells (msgCells m iv)) := fun H' hx => hx.get_lt (by simp) hg0
  simp only [abin_i_add, abin_i_sub, abin_i_mul, abin_i_eql, abin_i_neq, abin_i_lss, abin_i_leq, abin_i_gtr, abin_i_geq, abin_s_eql, abin_s_neq, bnd_some, bnd_none, branch_bool, gwant_bool, gwant_nothing, aguard_some, wantE_some, pickV_bool, nilck_ptr, nilck_elem, aoff_ptr, aoff_elem, aun_not, aun_neg, lenStr_str, lenSl_nils, lenSl_sl, lenSl_osl, aextract_tup, ld1uelem, idxStr_str, amin2uint, amax2uint, rangeStr_str, sliceStr_from, sliceStr_to, List.getElem?_cons_zero, List.getElem?_cons_succ, Option.map_some, Option.bind_some, Int.toNat_natCast, Int.toNat_zero, Int.le_refl, Bool.not_true, Bool.not_false, Bool.not_not, Bool.false_eq_true, if_true, if_false, decide_eq_true_eq, beq_self_eq_true, bool_ft, bool_tf, decide_true, decide_false, reduceCtorEq, cmpNil, cmpRes, boxCells, AV.known, AV.cells, Nat.zero_add, and_self, and_true, true_and, ite_self, forall_const, not_true_eq_false, not_false_eq_true]
  by_cases h63 : fieldsOf m.kind = [63]
  · have := h _ hx0
    have hc : checkM m = false := by simp [checkM, h63]
    rw [hc] at this
    simpa [h63] using this
  have h63' : (fieldsOf m.kind == [63]) = false := by simpa using h63
  simp only [h63', abin_i_add, abin_i_sub, abin_i_mul, abin_i_eql, abin_i_neq, abin_i_lss, abin_i_leq, abin_i_gtr, abin_i_geq, abin_s_eql, abin_s_neq, bnd_some, bnd_none, branch_bool, gwant_bool, gwant_nothing, aguard_some, wantE_some, pickV_bool, nilck_ptr, nilck_elem, aoff_ptr, aoff_elem, aun_not, aun_neg, lenStr_str, lenSl_nils, lenSl_sl, lenSl_osl, aextract_tup, ld1uelem, idxStr_str, amin2uint, amax2uint, rangeStr_str, sliceStr_from, sliceStr_to, List.getElem?_cons_zero, List.getElem?_cons_succ, Option.map_some, Option.bind_some, Int.toNat_natCast, Int.toNat_zero, Int.le_refl, Bool.not_true, Bool.not_false, Bool.not_not, Bool.false_eq_true, if_true, if_false, decide_eq_true_eq, beq_self_eq_true, bool_ft, bool_tf, decide_true, decide_false, reduceCtorEq, cmpNil, cmpRes, boxCells, AV.known, AV.cells, Nat.zero_add, and_self, and_true, true_and, ite_self, forall_const, not_true_eq_false, not_false_eq_true]
  have hsm := fieldsOf_small m.kind
  generalize hfs : fieldsOf m.kind = fs at hsm h63 h63'
  -- what it all comes to
  have hcheck : checkM m = ((textOk fs 70 m.f && textOk fs 69 m.e && textOk fs 84 m.t) && (numOk fs 78 m.n && numOk fs 83 m.state && numOk fs 85 m.num && numOk fs 80 m.epoch) && (if fs.contains 73 then listOk m.kind m.items else m.items.isEmpty)) := by
    have : (fs != [63]) = true := by simpa using h63
    simp only [checkM, hfs, this, Bool.true_and]
  have bad : ∀ H', Ext (H.add (.cells (msgCells m iv))) H' → checkM m = false → K (.int .i64 1) H' := fun H' hx hb => by
    have := h H' (hx0.trans hx)
    rw [hb] at this; exact this
  refine c_message_texts H.next fun es hes => ?_
  have hme : ((H.add (.cells (msgCells m iv))).add (.map es 3)).get (H.add (.cells (msgCells m iv))).next = some (.map es 3) := get_add_self _ _
  have hrm : rangeMap (.map (H.add (.cells (msgCells m iv))).next) ((H.add (.cells (msgCells m iv))).add (.map es 3)) =
      some (.iter ((H.add (.cells (msgCells m iv))).next + 1), ((H.add (.cells (msgCells m iv))).add (.map es 3)).add (.mIter (some (H.add (.cells (msgCells m iv))).next) 3 [] 3)) := by
    simp only [rangeMap, hme]; rfl
  simp only [hrm, bnd_some]
  generalize hH1 : H.add (.cells (msgCells m iv)) = H1 at *
  have hn1 : H1.next = H.next + 1 := by rw [← hH1]; rfl
  have hg1 : ((H1.add (.map es 3)).add (.mIter (some H1.next) 3 [] 3)).get H1.next = some (.map es 3) := by
    rw [get_add_ne _ _ (by simp)]; exact get_add_self _ _
  have hg2 : ((H1.add (.map es 3)).add (.mIter (some H1.next) 3 [] 3)).get (H1.next + 1) = some (.mIter (some H1.next) 3 [] 3) := by
    have := get_add_self (H1.add (.map es 3)) (.mIter (some H1.next) 3 [] 3)
    simpa using this
  have hxl : Ext H1 ((H1.add (.map es 3)).add (.mIter (some H1.next) 3 [] 3)) := ((Ext.refl H1).add _).add _
  -- the texts
  let G1 : AEnt → Prop := fun e => (e.key = .int .i32 70 → textOk fs 70 m.f = true) ∧ (e.key = .int .i32 69 → textOk fs 69 m.e = true) ∧ (e.key = .int .i32 84 → textOk fs 84 m.t = true)
  refine mapLoop (H0 := H1) (i := H1.next + 1) (r := H1.next) (c := 3) (es := es) G1 ?_ hes.nodup _ [] _ rfl (by simp) (by simp; omega) hxl hg2 hg1 (fun e _ hm => by simp at hm)
  intro seen H2 Y hin2 hrn2 hx2 hi2 hr2 hgood hY
  simp only [r_message_Check_p244]
  refine nextMap_at hi2 hr2 hes.born (fun hall => ?_) fun e hee hns => ?_
  · -- all texts were looked at: the numbers
    have htexts : (textOk fs 70 m.f && textOk fs 69 m.e && textOk fs 84 m.t) = true := by
      obtain ⟨e1, a1, b1⟩ := hes.sup (.int .i32 70, .ptr H.next 1) (by simp)
      obtain ⟨e2, a2, b2⟩ := hes.sup (.int .i32 69, .ptr H.next 2) (by simp)
      obtain ⟨e3, a3, b3⟩ := hes.sup (.int .i32 84, .ptr H.next 3) (by simp)
      have c1 := (hgood e1 a1 (hall e1 a1)).1 (by simp at b1; exact b1.1)
      have c2 := (hgood e2 a2 (hall e2 a2)).2.1 (by simp at b2; exact b2.1)
      have c3 := (hgood e3 a3 (hall e3 a3)).2.2 (by simp at b3; exact b3.1)
      simp [c1, c2, c3]
    simp only [abin_i_add, abin_i_sub, abin_i_mul, abin_i_eql, abin_i_neq, abin_i_lss, abin_i_leq, abin_i_gtr, abin_i_geq, abin_s_eql, abin_s_neq, bnd_some, bnd_none, branch_bool, gwant_bool, gwant_nothing, aguard_some, wantE_some, pickV_bool, nilck_ptr, nilck_elem, aoff_ptr, aoff_elem, aun_not, aun_neg, lenStr_str, lenSl_nils, lenSl_sl, lenSl_osl, aextract_tup, ld1uelem, idxStr_str, amin2uint, amax2uint, rangeStr_str, sliceStr_from, sliceStr_to, List.getElem?_cons_zero, List.getElem?_cons_succ, Option.map_some, Option.bind_some, Int.toNat_natCast, Int.toNat_zero, Int.le_refl, Bool.not_true, Bool.not_false, Bool.not_not, Bool.false_eq_true, if_true, if_false, decide_eq_true_eq, beq_self_eq_true, bool_ft, bool_tf, decide_true, decide_false, reduceCtorEq, cmpNil, cmpRes, boxCells, AV.known, AV.cells, Nat.zero_add, and_self, and_true, true_and, ite_self, forall_const, not_true_eq_false, not_false_eq_true]
    refine c_message_numbers H.next fun fs' hfs' => ?_
    have hme2 : (H2.add (.map fs' 4)).get H2.next = some (.map fs' 4) := get_add_self _ _
    have hrm2 : rangeMap (.map H2.next) (H2.add (.map fs' 4)) = some (.iter (H2.next + 1), (H2.add (.map fs' 4)).add (.mIter (some H2.next) 4 [] 4)) := by
      simp only [rangeMap, hme2]; rfl
    simp only [hrm2, bnd_some]
    have hg3 : ((H2.add (.map fs' 4)).add (.mIter (some H2.next) 4 [] 4)).get H2.next = some (.map fs' 4) := by
      rw [get_add_ne _ _ (by simp)]; exact get_add_self _ _
    have hg4 : ((H2.add (.map fs' 4)).add (.mIter (some H2.next) 4 [] 4)).get (H2.next + 1) = some (.mIter (some H2.next) 4 [] 4) := by
      have := get_add_self (H2.add (.map fs' 4)) (.mIter (some H2.next) 4 [] 4)
      simpa using this
    have hxl2 : Ext H2 ((H2.add (.map fs' 4)).add (.mIter (some H2.next) 4 [] 4)) := ((Ext.refl H2).add _).add _
    let G2 : AEnt → Prop := fun e => (e.key = .int .i32 78 → numOk fs 78 m.n = true) ∧ (e.key = .int .i32 83 → numOk fs 83 m.state = true) ∧ (e.key = .int .i32 85 → numOk fs 85 m.num = true) ∧ (e.key = .int .i32 80 → numOk fs 80 m.epoch = true)
    refine mapLoop (H0 := H2) (i := H2.next + 1) (r := H2.next) (c := 4) (es := fs') G2 ?_ hfs'.nodup _ [] _ rfl (by simp) (by simp; omega) hxl2 hg4 hg3 (fun e _ hm => by simp at hm)
    intro seen3 H3 Y3 hin3 hrn3 hx3 hi3 hr3 hgood3 hY3
    simp only [r_message_Check_p500]
    refine nextMap_at hi3 hr3 hfs'.born (fun hall3 => ?_) fun e hee hns => ?_
    · -- all numbers, too: the items
      have hnums : (numOk fs 78 m.n && numOk fs 83 m.state && numOk fs 85 m.num && numOk fs 80 m.epoch) = true := by
        obtain ⟨e1, a1, b1⟩ := hfs'.sup (.int .i32 78, .ptr H.next 4) (by simp)
        obtain ⟨e2, a2, b2⟩ := hfs'.sup (.int .i32 83, .ptr H.next 5) (by simp)
        obtain ⟨e3, a3, b3⟩ := hfs'.sup (.int .i32 85, .ptr H.next 6) (by simp)
        obtain ⟨e4, a4, b4⟩ := hfs'.sup (.int .i32 80, .ptr H.next 7) (by simp)
        have c1 := (hgood3 e1 a1 (hall3 e1 a1)).1 (by simp at b1; exact b1.1)
        have c2 := (hgood3 e2 a2 (hall3 e2 a2)).2.1 (by simp at b2; exact b2.1)
        have c3 := (hgood3 e3 a3 (hall3 e3 a3)).2.2.1 (by simp at b3; exact b3.1)
        have c4 := (hgood3 e4 a4 (hall3 e4 a4)).2.2.2 (by simp at b4; exact b4.1)
        simp [c1, c2, c3, c4]
      have hxx : Ext H1 H3 := hx2.trans hx3
      rw [htexts, hnums, Bool.true_and, Bool.true_and] at hcheck
      have hc8 : (msgCells m iv)[8]? = some iv := rfl
      have fin : ∀ H', Ext H1 H' → K (.int .i64 (if checkM m then 0 else 1)) H' := fun H' hx => h H' (hx0.trans hx)
      rw [hcheck] at fin
      simp only [abin_i_add, abin_i_sub, abin_i_mul, abin_i_eql, abin_i_neq, abin_i_lss, abin_i_leq, abin_i_gtr, abin_i_geq, abin_s_eql, abin_s_neq, bnd_some, bnd_none, branch_bool, gwant_bool, gwant_nothing, aguard_some, wantE_some, pickV_bool, nilck_ptr, nilck_elem, aoff_ptr, aoff_elem, aun_not, aun_neg, lenStr_str, lenSl_nils, lenSl_sl, lenSl_osl, aextract_tup, ld1uelem, idxStr_str, amin2uint, amax2uint, rangeStr_str, sliceStr_from, sliceStr_to, List.getElem?_cons_zero, List.getElem?_cons_succ, Option.map_some, Option.bind_some, Int.toNat_natCast, Int.toNat_zero, Int.le_refl, Bool.not_true, Bool.not_false, Bool.not_not, Bool.false_eq_true, if_true, if_false, decide_eq_true_eq, beq_self_eq_true, bool_ft, bool_tf, decide_true, decide_false, reduceCtorEq, cmpNil, cmpRes, boxCells, AV.known, AV.cells, Nat.zero_add, and_self, and_true, true_and, ite_self, forall_const, not_true_eq_false, not_false_eq_true]
      refine c_strings_ContainsRune fs 73 (by decide) ?_
      rw [index_contains]
      cases hI : fs.contains 73 with
      | true =>
        rw [hI] at fin
        simp only [if_true] at fin
        simp only [abin_i_add, abin_i_sub, abin_i_mul, abin_i_eql, abin_i_neq, abin_i_lss, abin_i_leq, abin_i_gtr, abin_i_geq, abin_s_eql, abin_s_neq, bnd_some, bnd_none, branch_bool, gwant_bool, gwant_nothing, aguard_some, wantE_some, pickV_bool, nilck_ptr, nilck_elem, aoff_ptr, aoff_elem, aun_not, aun_neg, lenStr_str, lenSl_nils, lenSl_sl, lenSl_osl, aextract_tup, ld1uelem, idxStr_str, amin2uint, amax2uint, rangeStr_str, sliceStr_from, sliceStr_to, List.getElem?_cons_zero, List.getElem?_cons_succ, Option.map_some, Option.bind_some, Int.toNat_natCast, Int.toNat_zero, Int.le_refl, Bool.not_true, Bool.not_false, Bool.not_not, Bool.false_eq_true, if_true, if_false, decide_eq_true_eq, beq_self_eq_true, bool_ft, bool_tf, decide_true, decide_false, reduceCtorEq, cmpNil, cmpRes, boxCells, AV.known, AV.cells, Nat.zero_add, and_self, and_true, true_and, ite_self, forall_const, not_true_eq_false, not_false_eq_true, ld1uptr (hcell H3 hxx), e0, hc8]
        refine c_message_list m.kind m.items hit hv fun H4 hx4 => ?_
        have := fin H4 (hxx.trans hx4)
        cases hl : listOk m.kind m.items with
        | true => rw [hl] at this; simpa only [abin_i_add, abin_i_sub, abin_i_mul, abin_i_eql, abin_i_neq, abin_i_lss, abin_i_leq, abin_i_gtr, abin_i_geq, abin_s_eql, abin_s_neq, bnd_some, bnd_none, branch_bool, gwant_bool, gwant_nothing, aguard_some, wantE_some, pickV_bool, nilck_ptr, nilck_elem, aoff_ptr, aoff_elem, aun_not, aun_neg, lenStr_str, lenSl_nils, lenSl_sl, lenSl_osl, aextract_tup, ld1uelem, idxStr_str, amin2uint, amax2uint, rangeStr_str, sliceStr_from, sliceStr_to, List.getElem?_cons_zero, List.getElem?_cons_succ, Option.map_some, Option.bind_some, Int.toNat_natCast, Int.toNat_zero, Int.le_refl, Bool.not_true, Bool.not_false, Bool.not_not, Bool.false_eq_true, if_true, if_false, decide_eq_true_eq, beq_self_eq_true, bool_ft, bool_tf, decide_true, decide_false, reduceCtorEq, cmpNil, cmpRes, boxCells, AV.known, AV.cells, Nat.zero_add, and_self, and_true, true_and, ite_self, forall_const, not_true_eq_false, not_false_eq_true] using this
        | false => rw [hl] at this; simpa only [abin_i_add, abin_i_sub, abin_i_mul, abin_i_eql, abin_i_neq, abin_i_lss, abin_i_leq, abin_i_gtr, abin_i_geq, abin_s_eql, abin_s_neq, bnd_some, bnd_none, branch_bool, gwant_bool, gwant_nothing, aguard_some, wantE_some, pickV_bool, nilck_ptr, nilck_elem, aoff_ptr, aoff_elem, aun_not, aun_neg, lenStr_str, lenSl_nils, lenSl_sl, lenSl_osl, aextract_tup, ld1uelem, idxStr_str, amin2uint, amax2uint, rangeStr_str, sliceStr_from, sliceStr_to, List.getElem?_cons_zero, List.getElem?_cons_succ, Option.map_some, Option.bind_some, Int.toNat_natCast, Int.toNat_zero, Int.le_refl, Bool.not_true, Bool.not_false, Bool.not_not, Bool.false_eq_true, if_true, if_false, decide_eq_true_eq, beq_self_eq_true, bool_ft, bool_tf, decide_true, decide_false, reduceCtorEq, cmpNil, cmpRes, boxCells, AV.known, AV.cells, Nat.zero_add, and_self, and_true, true_and, ite_self, forall_const, not_true_eq_false, not_false_eq_true] using this
      | false =>
        rw [hI] at fin
        simp only [Bool.false_eq_true, if_false] at fin
        have := fin H3 hxx
        cases hit' : m.items with
        | nil =>
          rw [hit'] at this hlen
          have e : decide (((([] : List Item).length : Nat) : Int) > 0) = false := rfl
          simp only [abin_i_add, abin_i_sub, abin_i_mul, abin_i_eql, abin_i_neq, abin_i_lss, abin_i_leq, abin_i_gtr, abin_i_geq, abin_s_eql, abin_s_neq, bnd_some, bnd_none, branch_bool, gwant_bool, gwant_nothing, aguard_some, wantE_some, pickV_bool, nilck_ptr, nilck_elem, aoff_ptr, aoff_elem, aun_not, aun_neg, lenStr_str, lenSl_nils, lenSl_sl, lenSl_osl, aextract_tup, ld1uelem, idxStr_str, amin2uint, amax2uint, rangeStr_str, sliceStr_from, sliceStr_to, List.getElem?_cons_zero, List.getElem?_cons_succ, Option.map_some, Option.bind_some, Int.toNat_natCast, Int.toNat_zero, Int.le_refl, Bool.not_true, Bool.not_false, Bool.not_not, Bool.false_eq_true, if_true, if_false, decide_eq_true_eq, beq_self_eq_true, bool_ft, bool_tf, decide_true, decide_false, reduceCtorEq, cmpNil, cmpRes, boxCells, AV.known, AV.cells, Nat.zero_add, and_self, and_true, true_and, ite_self, forall_const, not_true_eq_false, not_false_eq_true, ld1uptr (hcell H3 hxx), hc8, hlen, e]
          simpa using this
        | cons a l =>
          rw [hit'] at this hlen
          have e : decide ((((a :: l).length : Nat) : Int) > 0) = true := by simp only [List.length_cons]; simp
          simp only [abin_i_add, abin_i_sub, abin_i_mul, abin_i_eql, abin_i_neq, abin_i_lss, abin_i_leq, abin_i_gtr, abin_i_geq, abin_s_eql, abin_s_neq, bnd_some, bnd_none, branch_bool, gwant_bool, gwant_nothing, aguard_some, wantE_some, pickV_bool, nilck_ptr, nilck_elem, aoff_ptr, aoff_elem, aun_not, aun_neg, lenStr_str, lenSl_nils, lenSl_sl, lenSl_osl, aextract_tup, ld1uelem, idxStr_str, amin2uint, amax2uint, rangeStr_str, sliceStr_from, sliceStr_to, List.getElem?_cons_zero, List.getElem?_cons_succ, Option.map_some, Option.bind_some, Int.toNat_natCast, Int.toNat_zero, Int.le_refl, Bool.not_true, Bool.not_false, Bool.not_not, Bool.false_eq_true, if_true, if_false, decide_eq_true_eq, beq_self_eq_true, bool_ft, bool_tf, decide_true, decide_false, reduceCtorEq, cmpNil, cmpRes, boxCells, AV.known, AV.cells, Nat.zero_add, and_self, and_true, true_and, ite_self, forall_const, not_true_eq_false, not_false_eq_true, ld1uptr (hcell H3 hxx), hc8, hlen, e]
          simpa using this
    · -- one number
      obtain ⟨f, k, n, hkey, hval, hck, hG, hB⟩ : ∃ (f : UInt8) (k : Nat) (n : Int), e.key = .int .i32 f.toNat ∧ e.val = .ptr H.next k ∧ (msgCells m iv)[k]? = some (.int .i64 n) ∧ (numOk fs f n = true → G2 e) ∧ (numOk fs f n = false → checkM m = false) := by
        have hm := hfs'.sub e hee
        simp only [List.mem_cons, Prod.mk.injEq, List.not_mem_nil, or_false] at hm
        rcases hm with ⟨a, b⟩ | ⟨a, b⟩ | ⟨a, b⟩ | ⟨a, b⟩
        · exact ⟨78, 4, m.n, a, b, rfl, fun hh => ⟨fun _ => hh, by rw [a]; simp, by rw [a]; simp, by rw [a]; simp⟩, fun hh => by rw [hcheck, hh]; simp⟩
        · exact ⟨83, 5, m.state, a, b, rfl, fun hh => ⟨by rw [a]; simp, fun _ => hh, by rw [a]; simp, by rw [a]; simp⟩, fun hh => by rw [hcheck, hh]; simp⟩
        · exact ⟨85, 6, m.num, a, b, rfl, fun hh => ⟨by rw [a]; simp, by rw [a]; simp, fun _ => hh, by rw [a]; simp⟩, fun hh => by rw [hcheck, hh]; simp⟩
        · exact ⟨80, 7, m.epoch, a, b, rfl, fun hh => ⟨by rw [a]; simp, by rw [a]; simp, by rw [a]; simp, fun _ => hh⟩, fun hh => by rw [hcheck, hh]; simp⟩
      have hxp : Ext H2 (H3.put (H2.next + 1) (.mIter (some H2.next) 4 (seen3 ++ [e.born]) 4)) := hx3.put (by omega) _
      have hrp : (H3.put (H2.next + 1) (.mIter (some H2.next) 4 (seen3 ++ [e.born]) 4)).get H2.next = some (.map fs' 4) := by rw [get_put_ne _ _ (by omega)]; exact hr3
      have hent := entryOf_at hfs'.nodup hee (get_put_self H3 (H2.next + 1) (.mIter (some H2.next) 4 (seen3 ++ [e.born]) 4)) hrp
      have go : ∀ H', Ext (H3.put (H2.next + 1) (.mIter (some H2.next) 4 (seen3 ++ [e.born]) 4)) H' → numOk fs f n = true → Y3 [.ptr H.next 0, .str fs, .iter (H2.next + 1)] H' := fun H' hx' hh =>
        hY3 e hee hns H' hx'.next (hxp.trans hx') (hx'.get_lt hin3 (get_put_self _ _ _)) (hx'.get_lt hrn3 hrp) (hG hh)
      have no : ∀ H', Ext H2 H' → numOk fs f n = false → K (.int .i64 1) H' := fun H' hx' hh => bad H' (hx2.trans hx') (hB hh)
      simp only [abin_i_add, abin_i_sub, abin_i_mul, abin_i_eql, abin_i_neq, abin_i_lss, abin_i_leq, abin_i_gtr, abin_i_geq, abin_s_eql, abin_s_neq, bnd_some, bnd_none, branch_bool, gwant_bool, gwant_nothing, aguard_some, wantE_some, pickV_bool, nilck_ptr, nilck_elem, aoff_ptr, aoff_elem, aun_not, aun_neg, lenStr_str, lenSl_nils, lenSl_sl, lenSl_osl, aextract_tup, ld1uelem, idxStr_str, amin2uint, amax2uint, rangeStr_str, sliceStr_from, sliceStr_to, List.getElem?_cons_zero, List.getElem?_cons_succ, Option.map_some, Option.bind_some, Int.toNat_natCast, Int.toNat_zero, Int.le_refl, Bool.not_true, Bool.not_false, Bool.not_not, Bool.false_eq_true, if_true, if_false, decide_eq_true_eq, beq_self_eq_true, bool_ft, bool_tf, decide_true, decide_false, reduceCtorEq, cmpNil, cmpRes, boxCells, AV.known, AV.cells, Nat.zero_add, and_self, and_true, true_and, ite_self, forall_const, not_true_eq_false, not_false_eq_true, hent, hkey, hval]
      refine c_holds fs hsm f fun H4 hx4 => ?_
      have hx4' := hxp.trans hx4
      unfold numOk at go no
      cases hc : fs.contains f with
      | true =>
        rw [hc] at go no
        simp only [if_true] at go no
        simp only [abin_i_add, abin_i_sub, abin_i_mul, abin_i_eql, abin_i_neq, abin_i_lss, abin_i_leq, abin_i_gtr, abin_i_geq, abin_s_eql, abin_s_neq, bnd_some, bnd_none, branch_bool, gwant_bool, gwant_nothing, aguard_some, wantE_some, pickV_bool, nilck_ptr, nilck_elem, aoff_ptr, aoff_elem, aun_not, aun_neg, lenStr_str, lenSl_nils, lenSl_sl, lenSl_osl, aextract_tup, ld1uelem, idxStr_str, amin2uint, amax2uint, rangeStr_str, sliceStr_from, sliceStr_to, List.getElem?_cons_zero, List.getElem?_cons_succ, Option.map_some, Option.bind_some, Int.toNat_natCast, Int.toNat_zero, Int.le_refl, Bool.not_true, Bool.not_false, Bool.not_not, Bool.false_eq_true, if_true, if_false, decide_eq_true_eq, beq_self_eq_true, bool_ft, bool_tf, decide_true, decide_false, reduceCtorEq, cmpNil, cmpRes, boxCells, AV.known, AV.cells, Nat.zero_add, and_self, and_true, true_and, ite_self, forall_const, not_true_eq_false, not_false_eq_true, ld1uptr (hcell H4 (hx2.trans hx4')), hck]
        refine c_message_number f n ?_
        cases hr : numberOk f n with
        | true => simp only [abin_i_add, abin_i_sub, abin_i_mul, abin_i_eql, abin_i_neq, abin_i_lss, abin_i_leq, abin_i_gtr, abin_i_geq, abin_s_eql, abin_s_neq, bnd_some, bnd_none, branch_bool, gwant_bool, gwant_nothing, aguard_some, wantE_some, pickV_bool, nilck_ptr, nilck_elem, aoff_ptr, aoff_elem, aun_not, aun_neg, lenStr_str, lenSl_nils, lenSl_sl, lenSl_osl, aextract_tup, ld1uelem, idxStr_str, amin2uint, amax2uint, rangeStr_str, sliceStr_from, sliceStr_to, List.getElem?_cons_zero, List.getElem?_cons_succ, Option.map_some, Option.bind_some, Int.toNat_natCast, Int.toNat_zero, Int.le_refl, Bool.not_true, Bool.not_false, Bool.not_not, Bool.false_eq_true, if_true, if_false, decide_eq_true_eq, beq_self_eq_true, bool_ft, bool_tf, decide_true, decide_false, reduceCtorEq, cmpNil, cmpRes, boxCells, AV.known, AV.cells, Nat.zero_add, and_self, and_true, true_and, ite_self, forall_const, not_true_eq_false, not_false_eq_true]; exact go H4 hx4 hr
        | false => simp only [abin_i_add, abin_i_sub, abin_i_mul, abin_i_eql, abin_i_neq, abin_i_lss, abin_i_leq, abin_i_gtr, abin_i_geq, abin_s_eql, abin_s_neq, bnd_some, bnd_none, branch_bool, gwant_bool, gwant_nothing, aguard_some, wantE_some, pickV_bool, nilck_ptr, nilck_elem, aoff_ptr, aoff_elem, aun_not, aun_neg, lenStr_str, lenSl_nils, lenSl_sl, lenSl_osl, aextract_tup, ld1uelem, idxStr_str, amin2uint, amax2uint, rangeStr_str, sliceStr_from, sliceStr_to, List.getElem?_cons_zero, List.getElem?_cons_succ, Option.map_some, Option.bind_some, Int.toNat_natCast, Int.toNat_zero, Int.le_refl, Bool.not_true, Bool.not_false, Bool.not_not, Bool.false_eq_true, if_true, if_false, decide_eq_true_eq, beq_self_eq_true, bool_ft, bool_tf, decide_true, decide_false, reduceCtorEq, cmpNil, cmpRes, boxCells, AV.known, AV.cells, Nat.zero_add, and_self, and_true, true_and, ite_self, forall_const, not_true_eq_false, not_false_eq_true]; exact no H4 hx4' hr
      | false =>
        rw [hc] at go no
        simp only [Bool.false_eq_true, if_false] at go no
        have en : (n != 0) = !(n == 0) := rfl
        simp only [abin_i_add, abin_i_sub, abin_i_mul, abin_i_eql, abin_i_neq, abin_i_lss, abin_i_leq, abin_i_gtr, abin_i_geq, abin_s_eql, abin_s_neq, bnd_some, bnd_none, branch_bool, gwant_bool, gwant_nothing, aguard_some, wantE_some, pickV_bool, nilck_ptr, nilck_elem, aoff_ptr, aoff_elem, aun_not, aun_neg, lenStr_str, lenSl_nils, lenSl_sl, lenSl_osl, aextract_tup, ld1uelem, idxStr_str, amin2uint, amax2uint, rangeStr_str, sliceStr_from, sliceStr_to, List.getElem?_cons_zero, List.getElem?_cons_succ, Option.map_some, Option.bind_some, Int.toNat_natCast, Int.toNat_zero, Int.le_refl, Bool.not_true, Bool.not_false, Bool.not_not, Bool.false_eq_true, if_true, if_false, decide_eq_true_eq, beq_self_eq_true, bool_ft, bool_tf, decide_true, decide_false, reduceCtorEq, cmpNil, cmpRes, boxCells, AV.known, AV.cells, Nat.zero_add, and_self, and_true, true_and, ite_self, forall_const, not_true_eq_false, not_false_eq_true, ld1uptr (hcell H4 (hx2.trans hx4')), hck, en]
        cases hr : (n == 0) with
        | true => simp only [abin_i_add, abin_i_sub, abin_i_mul, abin_i_eql, abin_i_neq, abin_i_lss, abin_i_leq, abin_i_gtr, abin_i_geq, abin_s_eql, abin_s_neq, bnd_some, bnd_none, branch_bool, gwant_bool, gwant_nothing, aguard_some, wantE_some, pickV_bool, nilck_ptr, nilck_elem, aoff_ptr, aoff_elem, aun_not, aun_neg, lenStr_str, lenSl_nils, lenSl_sl, lenSl_osl, aextract_tup, ld1uelem, idxStr_str, amin2uint, amax2uint, rangeStr_str, sliceStr_from, sliceStr_to, List.getElem?_cons_zero, List.getElem?_cons_succ, Option.map_some, Option.bind_some, Int.toNat_natCast, Int.toNat_zero, Int.le_refl, Bool.not_true, Bool.not_false, Bool.not_not, Bool.false_eq_true, if_true, if_false, decide_eq_true_eq, beq_self_eq_true, bool_ft, bool_tf, decide_true, decide_false, reduceCtorEq, cmpNil, cmpRes, boxCells, AV.known, AV.cells, Nat.zero_add, and_self, and_true, true_and, ite_self, forall_const, not_true_eq_false, not_false_eq_true]; exact go H4 hx4 hr
        | false => simp only [abin_i_add, abin_i_sub, abin_i_mul, abin_i_eql, abin_i_neq, abin_i_lss, abin_i_leq, abin_i_gtr, abin_i_geq, abin_s_eql, abin_s_neq, bnd_some, bnd_none, branch_bool, gwant_bool, gwant_nothing, aguard_some, wantE_some, pickV_bool, nilck_ptr, nilck_elem, aoff_ptr, aoff_elem, aun_not, aun_neg, lenStr_str, lenSl_nils, lenSl_sl, lenSl_osl, aextract_tup, ld1uelem, idxStr_str, amin2uint, amax2uint, rangeStr_str, sliceStr_from, sliceStr_to, List.getElem?_cons_zero, List.getElem?_cons_succ, Option.map_some, Option.bind_some, Int.toNat_natCast, Int.toNat_zero, Int.le_refl, Bool.not_true, Bool.not_false, Bool.not_not, Bool.false_eq_true, if_true, if_false, decide_eq_true_eq, beq_self_eq_true, bool_ft, bool_tf, decide_true, decide_false, reduceCtorEq, cmpNil, cmpRes, boxCells, AV.known, AV.cells, Nat.zero_add, and_self, and_true, true_and, ite_self, forall_const, not_true_eq_false, not_false_eq_true]; exact no H4 hx4' hr
  · -- one text
    obtain ⟨f, k, s, hkey, hval, hck, hsl, hG, hB⟩ : ∃ (f : UInt8) (k : Nat) (s : Bs), e.key = .int .i32 f.toNat ∧ e.val = .ptr H.next k ∧ (msgCells m iv)[k]? = some (.str s) ∧ s.length ≤ 1000000000 ∧ (textOk fs f s = true → G1 e) ∧ (textOk fs f s = false → checkM m = false) := by
      have hm := hes.sub e hee
      simp only [List.mem_cons, Prod.mk.injEq, List.not_mem_nil, or_false] at hm
      rcases hm with ⟨a, b⟩ | ⟨a, b⟩ | ⟨a, b⟩
      · exact ⟨70, 1, m.f, a, b, rfl, hf, fun hh => ⟨fun _ => hh, by rw [a]; simp, by rw [a]; simp⟩, fun hh => by rw [hcheck, hh]; simp⟩
      · exact ⟨69, 2, m.e, a, b, rfl, he, fun hh => ⟨by rw [a]; simp, fun _ => hh, by rw [a]; simp⟩, fun hh => by rw [hcheck, hh]; simp⟩
      · exact ⟨84, 3, m.t, a, b, rfl, ht, fun hh => ⟨by rw [a]; simp, by rw [a]; simp, fun _ => hh⟩, fun hh => by rw [hcheck, hh]; simp⟩
    have hxp : Ext H1 (H2.put (H1.next + 1) (.mIter (some H1.next) 3 (seen ++ [e.born]) 3)) := hx2.put (by omega) _
    have hrp : (H2.put (H1.next + 1) (.mIter (some H1.next) 3 (seen ++ [e.born]) 3)).get H1.next = some (.map es 3) := by rw [get_put_ne _ _ (by omega)]; exact hr2
    have hent := entryOf_at hes.nodup hee (get_put_self H2 (H1.next + 1) (.mIter (some H1.next) 3 (seen ++ [e.born]) 3)) hrp
    have go : ∀ H', Ext (H2.put (H1.next + 1) (.mIter (some H1.next) 3 (seen ++ [e.born]) 3)) H' → textOk fs f s = true → Y [.ptr H.next 0, .str fs, .iter (H1.next + 1)] H' := fun H' hx' hh =>
      hY e hee hns H' hx'.next (hxp.trans hx') (hx'.get_lt hin2 (get_put_self _ _ _)) (hx'.get_lt hrn2 hrp) (hG hh)
    have no : ∀ H', Ext H1 H' → textOk fs f s = false → K (.int .i64 1) H' := fun H' hx' hh => bad H' hx' (hB hh)
    simp only [abin_i_add, abin_i_sub, abin_i_mul, abin_i_eql, abin_i_neq, abin_i_lss, abin_i_leq, abin_i_gtr, abin_i_geq, abin_s_eql, abin_s_neq, bnd_some, bnd_none, branch_bool, gwant_bool, gwant_nothing, aguard_some, wantE_some, pickV_bool, nilck_ptr, nilck_elem, aoff_ptr, aoff_elem, aun_not, aun_neg, lenStr_str, lenSl_nils, lenSl_sl, lenSl_osl, aextract_tup, ld1uelem, idxStr_str, amin2uint, amax2uint, rangeStr_str, sliceStr_from, sliceStr_to, List.getElem?_cons_zero, List.getElem?_cons_succ, Option.map_some, Option.bind_some, Int.toNat_natCast, Int.toNat_zero, Int.le_refl, Bool.not_true, Bool.not_false, Bool.not_not, Bool.false_eq_true, if_true, if_false, decide_eq_true_eq, beq_self_eq_true, bool_ft, bool_tf, decide_true, decide_false, reduceCtorEq, cmpNil, cmpRes, boxCells, AV.known, AV.cells, Nat.zero_add, and_self, and_true, true_and, ite_self, forall_const, not_true_eq_false, not_false_eq_true, hent, hkey, hval]
    refine c_holds fs hsm f fun H3 hx3 => ?_
    have hx3' := hxp.trans hx3
    unfold textOk at go no
    cases hc : fs.contains f with
    | true =>
      rw [hc] at go no
      simp only [if_true] at go no
      simp only [abin_i_add, abin_i_sub, abin_i_mul, abin_i_eql, abin_i_neq, abin_i_lss, abin_i_leq, abin_i_gtr, abin_i_geq, abin_s_eql, abin_s_neq, bnd_some, bnd_none, branch_bool, gwant_bool, gwant_nothing, aguard_some, wantE_some, pickV_bool, nilck_ptr, nilck_elem, aoff_ptr, aoff_elem, aun_not, aun_neg, lenStr_str, lenSl_nils, lenSl_sl, lenSl_osl, aextract_tup, ld1uelem, idxStr_str, amin2uint, amax2uint, rangeStr_str, sliceStr_from, sliceStr_to, List.getElem?_cons_zero, List.getElem?_cons_succ, Option.map_some, Option.bind_some, Int.toNat_natCast, Int.toNat_zero, Int.le_refl, Bool.not_true, Bool.not_false, Bool.not_not, Bool.false_eq_true, if_true, if_false, decide_eq_true_eq, beq_self_eq_true, bool_ft, bool_tf, decide_true, decide_false, reduceCtorEq, cmpNil, cmpRes, boxCells, AV.known, AV.cells, Nat.zero_add, and_self, and_true, true_and, ite_self, forall_const, not_true_eq_false, not_false_eq_true, ld1uptr (hcell H3 hx3'), hck]
      refine c_name_Right s (by omega) fun H4 hx4 => ?_
      have er : (s != [] && decide (s.length ≤ 8) && s.all isNm) = rightN s := rfl
      rw [er]
      cases hr : rightN s with
      | true => simp only [abin_i_add, abin_i_sub, abin_i_mul, abin_i_eql, abin_i_neq, abin_i_lss, abin_i_leq, abin_i_gtr, abin_i_geq, abin_s_eql, abin_s_neq, bnd_some, bnd_none, branch_bool, gwant_bool, gwant_nothing, aguard_some, wantE_some, pickV_bool, nilck_ptr, nilck_elem, aoff_ptr, aoff_elem, aun_not, aun_neg, lenStr_str, lenSl_nils, lenSl_sl, lenSl_osl, aextract_tup, ld1uelem, idxStr_str, amin2uint, amax2uint, rangeStr_str, sliceStr_from, sliceStr_to, List.getElem?_cons_zero, List.getElem?_cons_succ, Option.map_some, Option.bind_some, Int.toNat_natCast, Int.toNat_zero, Int.le_refl, Bool.not_true, Bool.not_false, Bool.not_not, Bool.false_eq_true, if_true, if_false, decide_eq_true_eq, beq_self_eq_true, bool_ft, bool_tf, decide_true, decide_false, reduceCtorEq, cmpNil, cmpRes, boxCells, AV.known, AV.cells, Nat.zero_add, and_self, and_true, true_and, ite_self, forall_const, not_true_eq_false, not_false_eq_true]; exact go H4 (hx3.trans hx4) hr
      | false => simp only [abin_i_add, abin_i_sub, abin_i_mul, abin_i_eql, abin_i_neq, abin_i_lss, abin_i_leq, abin_i_gtr, abin_i_geq, abin_s_eql, abin_s_neq, bnd_some, bnd_none, branch_bool, gwant_bool, gwant_nothing, aguard_some, wantE_some, pickV_bool, nilck_ptr, nilck_elem, aoff_ptr, aoff_elem, aun_not, aun_neg, lenStr_str, lenSl_nils, lenSl_sl, lenSl_osl, aextract_tup, ld1uelem, idxStr_str, amin2uint, amax2uint, rangeStr_str, sliceStr_from, sliceStr_to, List.getElem?_cons_zero, List.getElem?_cons_succ, Option.map_some, Option.bind_some, Int.toNat_natCast, Int.toNat_zero, Int.le_refl, Bool.not_true, Bool.not_false, Bool.not_not, Bool.false_eq_true, if_true, if_false, decide_eq_true_eq, beq_self_eq_true, bool_ft, bool_tf, decide_true, decide_false, reduceCtorEq, cmpNil, cmpRes, boxCells, AV.known, AV.cells, Nat.zero_add, and_self, and_true, true_and, ite_self, forall_const, not_true_eq_false, not_false_eq_true]; exact no H4 (hx3'.trans hx4) hr
    | false =>
      rw [hc] at go no
      simp only [Bool.false_eq_true, if_false] at go no
      simp only [abin_i_add, abin_i_sub, abin_i_mul, abin_i_eql, abin_i_neq, abin_i_lss, abin_i_leq, abin_i_gtr, abin_i_geq, abin_s_eql, abin_s_neq, bnd_some, bnd_none, branch_bool, gwant_bool, gwant_nothing, aguard_some, wantE_some, pickV_bool, nilck_ptr, nilck_elem, aoff_ptr, aoff_elem, aun_not, aun_neg, lenStr_str, lenSl_nils, lenSl_sl, lenSl_osl, aextract_tup, ld1uelem, idxStr_str, amin2uint, amax2uint, rangeStr_str, sliceStr_from, sliceStr_to, List.getElem?_cons_zero, List.getElem?_cons_succ, Option.map_some, Option.bind_some, Int.toNat_natCast, Int.toNat_zero, Int.le_refl, Bool.not_true, Bool.not_false, Bool.not_not, Bool.false_eq_true, if_true, if_false, decide_eq_true_eq, beq_self_eq_true, bool_ft, bool_tf, decide_true, decide_false, reduceCtorEq, cmpNil, cmpRes, boxCells, AV.known, AV.cells, Nat.zero_add, and_self, and_true, true_and, ite_self, forall_const, not_true_eq_false, not_false_eq_true, ld1uptr (hcell H3 hx3'), hck]
      cases hr : (s == []) with
      | true => simp only [abin_i_add, abin_i_sub, abin_i_mul, abin_i_eql, abin_i_neq, abin_i_lss, abin_i_leq, abin_i_gtr, abin_i_geq, abin_s_eql, abin_s_neq, bnd_some, bnd_none, branch_bool, gwant_bool, gwant_nothing, aguard_some, wantE_some, pickV_bool, nilck_ptr, nilck_elem, aoff_ptr, aoff_elem, aun_not, aun_neg, lenStr_str, lenSl_nils, lenSl_sl, lenSl_osl, aextract_tup, ld1uelem, idxStr_str, amin2uint, amax2uint, rangeStr_str, sliceStr_from, sliceStr_to, List.getElem?_cons_zero, List.getElem?_cons_succ, Option.map_some, Option.bind_some, Int.toNat_natCast, Int.toNat_zero, Int.le_refl, Bool.not_true, Bool.not_false, Bool.not_not, Bool.false_eq_true, if_true, if_false, decide_eq_true_eq, beq_self_eq_true, bool_ft, bool_tf, decide_true, decide_false, reduceCtorEq, cmpNil, cmpRes, boxCells, AV.known, AV.cells, Nat.zero_add, and_self, and_true, true_and, ite_self, forall_const, not_true_eq_false, not_false_eq_true]; exact go H3 hx3 hr
      | false => simp only [abin_i_add, abin_i_sub, abin_i_mul, abin_i_eql, abin_i_neq, abin_i_lss, abin_i_leq, abin_i_gtr, abin_i_geq, abin_s_eql, abin_s_neq, bnd_some, bnd_none, branch_bool, gwant_bool, gwant_nothing, aguard_some, wantE_some, pickV_bool, nilck_ptr, nilck_elem, aoff_ptr, aoff_elem, aun_not, aun_neg, lenStr_str, lenSl_nils, lenSl_sl, lenSl_osl, aextract_tup, ld1uelem, idxStr_str, amin2uint, amax2uint, rangeStr_str, sliceStr_from, sliceStr_to, List.getElem?_cons_zero, List.getElem?_cons_succ, Option.map_some, Option.bind_some, Int.toNat_natCast, Int.toNat_zero, Int.le_refl, Bool.not_true, Bool.not_false, Bool.not_not, Bool.false_eq_true, if_true, if_false, decide_eq_true_eq, beq_self_eq_true, bool_ft, bool_tf, decide_true, decide_false, reduceCtorEq, cmpNil, cmpRes, boxCells, AV.known, AV.cells, Nat.zero_add, and_self, and_true, true_and, ite_self, forall_const, not_true_eq_false, not_false_eq_true]; exact no H3 hx3' hr
end Go.Va

/-
  Contracts: the words of a line.
-/
set_option linter.unusedVariables false
set_option linter.unusedSimpArgs false
set_option maxRecDepth 100000
namespace Go.Va
/-- H' is H but for these objects, and more -/
structure ExtO (S : List Nat) (H H' : AH) : Prop where
  next : H.next ≤ H'.next
  get : ∀ o, o < H.next → o ∉ S → H'.get o = H.get o
  tok : ∀ c, c < H.next → H'.tok c = H.tok c
theorem Ext.toO {H H' : AH} (h : Ext H H') (S : List Nat) : ExtO S H H' := ⟨h.next, fun o ho _ => h.get o ho, h.tok⟩
theorem ExtO.refl (S : List Nat) (H : AH) : ExtO S H H := (Ext.refl H).toO S
theorem ExtO.trans {S : List Nat} {H H' H'' : AH} (h : ExtO S H H') (h' : ExtO S H' H'') : ExtO S H H'' :=
  ⟨Nat.le_trans h.next h'.next, fun o ho hs => (h'.get o (Nat.lt_of_lt_of_le ho h.next) hs).trans (h.get o ho hs), fun c hc => (h'.tok c (Nat.lt_of_lt_of_le hc h.next)).trans (h.tok c hc)⟩
theorem ExtO.mono {S T : List Nat} {H H' : AH} (h : ExtO S H H') (hs : ∀ o ∈ S, o ∈ T) : ExtO T H H' := ⟨h.next, fun o ho hn => h.get o ho fun hm => hn (hs o hm), h.tok⟩
theorem ExtO.put {S : List Nat} {H H' : AH} (h : ExtO S H H') {o : Nat} (ho : o ∈ S ∨ H.next ≤ o) (x : AObj) : ExtO S H (H'.put o x) :=
  ⟨h.next, fun o' ho' hn => by
    have : o' ≠ o := by rintro rfl; rcases ho with ho | ho; exact hn ho; omega
    rw [get_put_ne _ _ this]; exact h.get o' ho' hn, h.tok⟩
theorem ExtO.add {S : List Nat} {H H' : AH} (h : ExtO S H H') (x : AObj) : ExtO S H (H'.add x) := h.trans (((Ext.refl H').add x).toO S)
theorem ExtO.ext {S : List Nat} {H0 H H' : AH} (h0 : Ext H0 H) (h : ExtO S H H') (hs : ∀ o ∈ S, H0.next ≤ o) : Ext H0 H' :=
  ⟨Nat.le_trans h0.next h.next, fun o ho => (h.get o (Nat.lt_of_lt_of_le ho h0.next) fun hm => by have := hs o hm; omega).trans (h0.get o ho), fun c hc => (h.tok c (Nat.lt_of_lt_of_le hc h0.next)).trans (h0.tok c hc)⟩
theorem ExtO.get_lt {S : List Nat} {H H' : AH} (h : ExtO S H H') {o : Nat} {x : AObj} (ho : o < H.next) (hn : o ∉ S) (hg : H.get o = some x) : H'.get o = some x := by rw [h.get o ho hn]; exact hg

-- ---------------------------------------------------------------- the model
structure Wds where
  l : List Bs
  bad : Bool
def nextW (w : Wds) : Bs × Wds := match w.l with
  | [] => ([], ⟨[], true⟩)
  | s :: l => (s, ⟨l, w.bad⟩)
def numberW (w : Wds) : Nat × Wds := let r := nextW w; ((number r.1).getD 0, ⟨r.2.l, r.2.bad || !(number r.1).isSome⟩)
def needOf (a b : Nat) : Nat × Nat := if a ≤ 100000 ∧ b ≤ 100000 then (a, b) else (0, 0)
def itemW (needs : Bool) (w : Wds) : Item × Wds :=
  let r := nextW w
  if needs then
    let a := numberW r.2
    let b := numberW a.2
    (⟨r.1, (needOf a.1 b.1).1, (needOf a.1 b.1).2⟩, b.2)
  else (⟨r.1, 0, 0⟩, r.2)
theorem nextW_len (w : Wds) : (nextW w).2.l.length ≤ w.l.length := by
  unfold nextW; split <;> simp_all
theorem numberW_len (w : Wds) : (numberW w).2.l.length ≤ w.l.length := nextW_len w
theorem itemW_lt (needs : Bool) (w : Wds) (h : 0 < w.l.length) : (itemW needs w).2.l.length < w.l.length := by
  have h1 : (nextW w).2.l.length < w.l.length := by
    unfold nextW
    cases hw : w.l with
    | nil => rw [hw] at h; simp at h
    | cons a l => simp
  unfold itemW
  cases needs with
  | false => simpa using h1
  | true =>
    simp only [if_true]
    have h2 := numberW_len (nextW w).2
    have h3 := numberW_len (numberW (nextW w).2).2
    omega
def itemsF (needs : Bool) : Nat → Wds → List Item × Wds
  | 0, w => ([], w)
  | k + 1, w => if 0 < w.l.length ∧ w.bad = false then
      let r := itemW needs w
      let q := itemsF needs k r.2
      (r.1 :: q.1, q.2)
    else ([], w)
def itemsW (needs : Bool) (w : Wds) : List Item × Wds := itemsF needs w.l.length w
theorem itemsF_eq (needs : Bool) : ∀ (k : Nat) (w : Wds) (k' : Nat), w.l.length ≤ k → w.l.length ≤ k' → itemsF needs k w = itemsF needs k' w
  | 0, w, 0, _, _ => rfl
  | 0, w, k' + 1, h, _ => by
    have : ¬ (0 < w.l.length ∧ w.bad = false) := by omega
    simp only [itemsF]; rw [if_neg this]
  | k + 1, w, 0, _, h => by
    have : ¬ (0 < w.l.length ∧ w.bad = false) := by omega
    simp only [itemsF]; rw [if_neg this]
  | k + 1, w, k' + 1, h, h' => by
    simp only [itemsF]
    by_cases hc : 0 < w.l.length ∧ w.bad = false
    · have hlt := itemW_lt needs w hc.1
      rw [if_pos hc, if_pos hc, itemsF_eq needs k (itemW needs w).2 k' (by omega) (by omega)]
    · rw [if_neg hc, if_neg hc]
theorem itemsW_eq (needs : Bool) (w : Wds) : itemsW needs w = if h : 0 < w.l.length ∧ w.bad = false then ((itemW needs w).1 :: (itemsW needs (itemW needs w).2).1, (itemsW needs (itemW needs w).2).2) else ([], w) := by
  by_cases hc : 0 < w.l.length ∧ w.bad = false
  · rw [dif_pos hc]
    have hlt := itemW_lt needs w hc.1
    obtain ⟨k, hk⟩ : ∃ k, w.l.length = k + 1 := ⟨w.l.length - 1, by omega⟩
    have e : itemsW needs w = itemsF needs (k + 1) w := by unfold itemsW; rw [hk]
    rw [e]
    simp only [itemsF]
    rw [if_pos hc, itemsF_eq needs k (itemW needs w).2 (itemW needs w).2.l.length (by omega) (Nat.le_refl _)]
    rfl
  · rw [dif_neg hc]
    unfold itemsW
    cases hl : w.l.length with
    | zero => rfl
    | succ k => simp only [itemsF]; rw [if_neg hc]

def WSmall (l : List Bs) : Prop := l.length ≤ 1000000000 ∧ ∀ s ∈ l, s.length ≤ 1000000000
theorem nextW_small {w : Wds} (h : WSmall w.l) : WSmall (nextW w).2.l ∧ (nextW w).1.length ≤ 1000000000 := by
  unfold nextW
  cases hw : w.l with
  | nil => exact ⟨⟨by simp, by simp⟩, by simp⟩
  | cons a l =>
    rw [hw] at h
    exact ⟨⟨by have := h.1; simp at this ⊢; omega, fun s hs => h.2 s (List.mem_cons_of_mem _ hs)⟩, h.2 a (List.mem_cons_self ..)⟩
theorem numberW_small {w : Wds} (h : WSmall w.l) : WSmall (numberW w).2.l ∧ (numberW w).1 < 1000000000 := by
  refine ⟨(nextW_small h).1, ?_⟩
  simp only [numberW, number]
  split
  · rename_i hc
    simp only [Option.getD_some]
    have := numOf_lt (nextW w).1 0 hc.2.2.1
    refine Nat.lt_of_lt_of_le this ?_
    rw [Nat.zero_add, Nat.one_mul]
    exact Nat.pow_le_pow_right (by omega) hc.2.1
  · simp
theorem needOf_le (a b : Nat) : (needOf a b).1 ≤ 100000 ∧ (needOf a b).2 ≤ 100000 := by
  unfold needOf; split
  · assumption
  · exact ⟨by simp, by simp⟩
theorem itemW_small {needs : Bool} {w : Wds} (h : WSmall w.l) : WSmall (itemW needs w).2.l ∧ ItemSmall (itemW needs w).1 := by
  obtain ⟨h1, h2⟩ := nextW_small h
  unfold itemW
  cases needs with
  | false => exact ⟨h1, by simp [ItemSmall], by simp, h2⟩
  | true =>
    obtain ⟨h3, _⟩ := numberW_small h1
    obtain ⟨h5, _⟩ := numberW_small h3
    have := needOf_le (numberW (nextW w).2).1 (numberW (numberW (nextW w).2).2).1
    exact ⟨h5, by simp only [if_true]; omega, by simp only [if_true]; omega, h2⟩

-- ---------------------------------------------------------------- the object
/-- object o is these words -/
def IsWords (H : AH) (o : Nat) (w : Wds) : Prop := ∃ g, H.get o = some (.cells [.sl g 1 (w.l.map .str), .bool w.bad])
theorem IsWords.lt {H H' : AH} {o o' : Nat} {w : Wds} (h : IsWords H o w) (hx : ExtO [o'] H H') (ho : o < H.next) (hn : o ≠ o') : IsWords H' o w := by
  obtain ⟨g, hg⟩ := h
  exact ⟨g, hx.get_lt ho (by simpa using hn) hg⟩
theorem IsWords.ext {H H' : AH} {o : Nat} {w : Wds} (h : IsWords H o w) (hx : Ext H H') (ho : o < H.next) : IsWords H' o w := by
  obtain ⟨g, hg⟩ := h
  exact ⟨g, hx.get_lt ho hg⟩
theorem sliceSl_from1 (g : Grow) (x : AV) (l : List AV) : sliceSl 1 (.sl g 1 (x :: l)) (some (.int .i64 1)) none none = some (.sl g 1 l) := by
  have h : (0 : Int) ≤ 1 ∧ (1 : Int) ≤ ((l.length + 1 : Nat) : Int) := by omega
  simp [sliceSl, abound]
  omega
theorem c_words_next (o : Nat) (w : Wds) (hw : WSmall w.l) {H : AH} (ho : o < H.next) (hs : IsWords H o w) {K : AV → AH → Prop}
    (h : ∀ H', ExtO [o] H H' → IsWords H' o (nextW w).2 → K (.str (nextW w).1) H') : r_script_words_next [.ptr o 0] H K := by
  obtain ⟨g, hg⟩ := hs
  obtain ⟨l, bad⟩ := w
  cases l with
  | nil =>
    have e1 : ([AV.sl g 1 (([] : List Bs).map .str), .bool bad])[0]? = some (.sl g 1 []) := rfl
    have e2 := ast1uptr hg (i := 1) (v := .bool true) rfl (by simp)
    simp only [r_script_words_next, abin_i_add, abin_i_sub, abin_i_mul, abin_i_eql, abin_i_neq, abin_i_lss, abin_i_leq, abin_i_gtr, abin_i_geq, abin_s_eql, abin_s_neq, bnd_some, bnd_none, branch_bool, gwant_bool, gwant_nothing, aguard_some, wantE_some, pickV_bool, nilck_ptr, nilck_elem, aoff_ptr, aoff_elem, aun_not, aun_neg, lenStr_str, lenSl_nils, lenSl_sl, lenSl_osl, aextract_tup, ld1uelem, idxStr_str, amin2uint, amax2uint, rangeStr_str, sliceStr_from, sliceStr_to, List.getElem?_cons_zero, List.getElem?_cons_succ, Option.map_some, Option.bind_some, Int.toNat_natCast, Int.toNat_zero, Int.le_refl, Bool.not_true, Bool.not_false, Bool.not_not, Bool.false_eq_true, if_true, if_false, decide_eq_true_eq, beq_self_eq_true, bool_ft, bool_tf, decide_true, decide_false, reduceCtorEq, cmpNil, cmpRes, boxCells, AV.known, AV.cells, Nat.zero_add, and_self, and_true, true_and, ite_self, forall_const, not_true_eq_false, not_false_eq_true, ld1uptr hg, e1, List.length_nil, show ((((0 : Nat) : Int)) == 0) = true from rfl, e2]
    exact h _ ((ExtO.refl [o] H).put (.inl (by simp)) _) ⟨g, get_put_self _ _ _⟩
  | cons s l =>
    have hl := hw.1
    simp only [List.length_cons] at hl
    have e0 : ((((s :: l).map AV.str).length : Nat) : Int) = ((l.length + 1 : Nat) : Int) := by simp
    have en : (((l.length + 1 : Nat) : Int) == 0) = false := by simp; omega
    have e1 : ([AV.sl g 1 ((s :: l).map .str), .bool bad])[0]? = some (.sl g 1 (.str s :: l.map .str)) := rfl
    have e3 : idxA 1 (.sl g 1 (.str s :: l.map .str)) (.int .i64 0) = some (.elem [.str s] 0) := by simp [idxA, AV.known, AV.cells]
    have e2 := ast1uptr hg (i := 0) (v := .sl g 1 (l.map .str)) rfl (by simp)
    have el : (((AV.str s :: l.map AV.str).length : Nat) : Int) = ((l.length + 1 : Nat) : Int) := by simp
    simp only [r_script_words_next, abin_i_add, abin_i_sub, abin_i_mul, abin_i_eql, abin_i_neq, abin_i_lss, abin_i_leq, abin_i_gtr, abin_i_geq, abin_s_eql, abin_s_neq, bnd_some, bnd_none, branch_bool, gwant_bool, gwant_nothing, aguard_some, wantE_some, pickV_bool, nilck_ptr, nilck_elem, aoff_ptr, aoff_elem, aun_not, aun_neg, lenStr_str, lenSl_nils, lenSl_sl, lenSl_osl, aextract_tup, ld1uelem, idxStr_str, amin2uint, amax2uint, rangeStr_str, sliceStr_from, sliceStr_to, List.getElem?_cons_zero, List.getElem?_cons_succ, Option.map_some, Option.bind_some, Int.toNat_natCast, Int.toNat_zero, Int.le_refl, Bool.not_true, Bool.not_false, Bool.not_not, Bool.false_eq_true, if_true, if_false, decide_eq_true_eq, beq_self_eq_true, bool_ft, bool_tf, decide_true, decide_false, reduceCtorEq, cmpNil, cmpRes, boxCells, AV.known, AV.cells, Nat.zero_add, and_self, and_true, true_and, ite_self, forall_const, not_true_eq_false, not_false_eq_true, ld1uptr hg, e1, el, en, e3, sliceSl_from1, e2]
    exact h _ ((ExtO.refl [o] H).put (.inl (by simp)) _) ⟨g, get_put_self _ _ _⟩
theorem c_words_number (o : Nat) (w : Wds) (hw : WSmall w.l) {H : AH} (ho : o < H.next) (hs : IsWords H o w) {K : AV → AH → Prop}
    (h : ∀ H', ExtO [o] H H' → IsWords H' o (numberW w).2 → K (.int .i64 (numberW w).1) H') : r_script_words_number [.ptr o 0] H K := by
  simp only [r_script_words_number]
  refine c_words_next o w hw ho hs fun H1 hx1 hs1 => ?_
  obtain ⟨hw1, hl1⟩ := nextW_small hw
  refine c_script_Number _ (by omega) fun H2 hx2 => ?_
  have ho1 : o < H1.next := Nat.lt_of_lt_of_le ho hx1.next
  obtain ⟨g, hg⟩ := hs1.ext hx2 ho1
  have e1 : ([AV.sl g 1 ((nextW w).2.l.map .str), .bool (nextW w).2.bad])[1]? = some (.bool (nextW w).2.bad) := rfl
  have fin : ∀ b, b = (numberW w).2.bad → K (.int .i64 (numberW w).1) (H2.put o (.cells [.sl g 1 ((nextW w).2.l.map .str), .bool b])) := by
    rintro b rfl
    exact h _ ((hx1.trans (hx2.toO [o])).put (.inl (by simp)) _) ⟨g, get_put_self _ _ _⟩
  have est : ∀ b, ast 1 (.ptr o 1) (.bool b) H2 = some (H2.put o (.cells [.sl g 1 ((nextW w).2.l.map .str), .bool b])) := fun b => ast1uptr hg (i := 1) (v := .bool b) rfl (by simp)
  simp only [abin_i_add, abin_i_sub, abin_i_mul, abin_i_eql, abin_i_neq, abin_i_lss, abin_i_leq, abin_i_gtr, abin_i_geq, abin_s_eql, abin_s_neq, bnd_some, bnd_none, branch_bool, gwant_bool, gwant_nothing, aguard_some, wantE_some, pickV_bool, nilck_ptr, nilck_elem, aoff_ptr, aoff_elem, aun_not, aun_neg, lenStr_str, lenSl_nils, lenSl_sl, lenSl_osl, aextract_tup, ld1uelem, idxStr_str, amin2uint, amax2uint, rangeStr_str, sliceStr_from, sliceStr_to, List.getElem?_cons_zero, List.getElem?_cons_succ, Option.map_some, Option.bind_some, Int.toNat_natCast, Int.toNat_zero, Int.le_refl, Bool.not_true, Bool.not_false, Bool.not_not, Bool.false_eq_true, if_true, if_false, decide_eq_true_eq, beq_self_eq_true, bool_ft, bool_tf, decide_true, decide_false, reduceCtorEq, cmpNil, cmpRes, boxCells, AV.known, AV.cells, Nat.zero_add, and_self, and_true, true_and, ite_self, forall_const, not_true_eq_false, not_false_eq_true, ld1uptr hg, e1]
  cases hb : (nextW w).2.bad with
  | true =>
    simp only [abin_i_add, abin_i_sub, abin_i_mul, abin_i_eql, abin_i_neq, abin_i_lss, abin_i_leq, abin_i_gtr, abin_i_geq, abin_s_eql, abin_s_neq, bnd_some, bnd_none, branch_bool, gwant_bool, gwant_nothing, aguard_some, wantE_some, pickV_bool, nilck_ptr, nilck_elem, aoff_ptr, aoff_elem, aun_not, aun_neg, lenStr_str, lenSl_nils, lenSl_sl, lenSl_osl, aextract_tup, ld1uelem, idxStr_str, amin2uint, amax2uint, rangeStr_str, sliceStr_from, sliceStr_to, List.getElem?_cons_zero, List.getElem?_cons_succ, Option.map_some, Option.bind_some, Int.toNat_natCast, Int.toNat_zero, Int.le_refl, Bool.not_true, Bool.not_false, Bool.not_not, Bool.false_eq_true, if_true, if_false, decide_eq_true_eq, beq_self_eq_true, bool_ft, bool_tf, decide_true, decide_false, reduceCtorEq, cmpNil, cmpRes, boxCells, AV.known, AV.cells, Nat.zero_add, and_self, and_true, true_and, ite_self, forall_const, not_true_eq_false, not_false_eq_true, est]
    exact fin true (by simp [numberW, hb])
  | false =>
    simp only [abin_i_add, abin_i_sub, abin_i_mul, abin_i_eql, abin_i_neq, abin_i_lss, abin_i_leq, abin_i_gtr, abin_i_geq, abin_s_eql, abin_s_neq, bnd_some, bnd_none, branch_bool, gwant_bool, gwant_nothing, aguard_some, wantE_some, pickV_bool, nilck_ptr, nilck_elem, aoff_ptr, aoff_elem, aun_not, aun_neg, lenStr_str, lenSl_nils, lenSl_sl, lenSl_osl, aextract_tup, ld1uelem, idxStr_str, amin2uint, amax2uint, rangeStr_str, sliceStr_from, sliceStr_to, List.getElem?_cons_zero, List.getElem?_cons_succ, Option.map_some, Option.bind_some, Int.toNat_natCast, Int.toNat_zero, Int.le_refl, Bool.not_true, Bool.not_false, Bool.not_not, Bool.false_eq_true, if_true, if_false, decide_eq_true_eq, beq_self_eq_true, bool_ft, bool_tf, decide_true, decide_false, reduceCtorEq, cmpNil, cmpRes, boxCells, AV.known, AV.cells, Nat.zero_add, and_self, and_true, true_and, ite_self, forall_const, not_true_eq_false, not_false_eq_true, est]
    exact fin _ (by simp [numberW, hb])
theorem c_need_Of (a b : Nat) {H : AH} {K : AV → AH → Prop} (h : K (.cplx .f64 (fl (needOf a b).1) (fl (needOf a b).2)) H) : r_need_Of [.int .i64 a, .int .i64 b] H K := by
  have ea : decide ((a : Int) < 0) = false := by simp
  have eb : decide ((b : Int) < 0) = false := by simp
  unfold needOf at h
  by_cases h1 : a ≤ 100000
  · have e1 : decide ((a : Int) > 100000) = false := by simp; omega
    by_cases h2 : b ≤ 100000
    · have e2 : decide ((b : Int) > 100000) = false := by simp; omega
      rw [if_pos ⟨h1, h2⟩] at h
      simpa only [r_need_Of, abin_i_add, abin_i_sub, abin_i_mul, abin_i_eql, abin_i_neq, abin_i_lss, abin_i_leq, abin_i_gtr, abin_i_geq, abin_s_eql, abin_s_neq, bnd_some, bnd_none, branch_bool, gwant_bool, gwant_nothing, aguard_some, wantE_some, pickV_bool, nilck_ptr, nilck_elem, aoff_ptr, aoff_elem, aun_not, aun_neg, lenStr_str, lenSl_nils, lenSl_sl, lenSl_osl, aextract_tup, ld1uelem, idxStr_str, amin2uint, amax2uint, rangeStr_str, sliceStr_from, sliceStr_to, List.getElem?_cons_zero, List.getElem?_cons_succ, Option.map_some, Option.bind_some, Int.toNat_natCast, Int.toNat_zero, Int.le_refl, Bool.not_true, Bool.not_false, Bool.not_not, Bool.false_eq_true, if_true, if_false, decide_eq_true_eq, beq_self_eq_true, bool_ft, bool_tf, decide_true, decide_false, reduceCtorEq, cmpNil, cmpRes, boxCells, AV.known, AV.cells, Nat.zero_add, and_self, and_true, true_and, ite_self, forall_const, not_true_eq_false, not_false_eq_true, ea, eb, e1, e2, conv_fl, acplx] using h
    · have e2 : decide ((b : Int) > 100000) = true := by simp; omega
      rw [if_neg (fun h => h2 h.2), fl_zero] at h
      simpa only [r_need_Of, abin_i_add, abin_i_sub, abin_i_mul, abin_i_eql, abin_i_neq, abin_i_lss, abin_i_leq, abin_i_gtr, abin_i_geq, abin_s_eql, abin_s_neq, bnd_some, bnd_none, branch_bool, gwant_bool, gwant_nothing, aguard_some, wantE_some, pickV_bool, nilck_ptr, nilck_elem, aoff_ptr, aoff_elem, aun_not, aun_neg, lenStr_str, lenSl_nils, lenSl_sl, lenSl_osl, aextract_tup, ld1uelem, idxStr_str, amin2uint, amax2uint, rangeStr_str, sliceStr_from, sliceStr_to, List.getElem?_cons_zero, List.getElem?_cons_succ, Option.map_some, Option.bind_some, Int.toNat_natCast, Int.toNat_zero, Int.le_refl, Bool.not_true, Bool.not_false, Bool.not_not, Bool.false_eq_true, if_true, if_false, decide_eq_true_eq, beq_self_eq_true, bool_ft, bool_tf, decide_true, decide_false, reduceCtorEq, cmpNil, cmpRes, boxCells, AV.known, AV.cells, Nat.zero_add, and_self, and_true, true_and, ite_self, forall_const, not_true_eq_false, not_false_eq_true, ea, eb, e1, e2, conv_fl, acplx] using h
  · have e1 : decide ((a : Int) > 100000) = true := by simp; omega
    rw [if_neg (fun h => h1 h.1), fl_zero] at h
    simpa only [r_need_Of, abin_i_add, abin_i_sub, abin_i_mul, abin_i_eql, abin_i_neq, abin_i_lss, abin_i_leq, abin_i_gtr, abin_i_geq, abin_s_eql, abin_s_neq, bnd_some, bnd_none, branch_bool, gwant_bool, gwant_nothing, aguard_some, wantE_some, pickV_bool, nilck_ptr, nilck_elem, aoff_ptr, aoff_elem, aun_not, aun_neg, lenStr_str, lenSl_nils, lenSl_sl, lenSl_osl, aextract_tup, ld1uelem, idxStr_str, amin2uint, amax2uint, rangeStr_str, sliceStr_from, sliceStr_to, List.getElem?_cons_zero, List.getElem?_cons_succ, Option.map_some, Option.bind_some, Int.toNat_natCast, Int.toNat_zero, Int.le_refl, Bool.not_true, Bool.not_false, Bool.not_not, Bool.false_eq_true, if_true, if_false, decide_eq_true_eq, beq_self_eq_true, bool_ft, bool_tf, decide_true, decide_false, reduceCtorEq, cmpNil, cmpRes, boxCells, AV.known, AV.cells, Nat.zero_add, and_self, and_true, true_and, ite_self, forall_const, not_true_eq_false, not_false_eq_true, ea, eb, e1, conv_fl, acplx] using h
theorem IsWords.O {H H' : AH} {o : Nat} {w : Wds} {S : List Nat} (h : IsWords H o w) (hx : ExtO S H H') (ho : o < H.next) (hn : o ∉ S) : IsWords H' o w := by
  obtain ⟨g, hg⟩ := h
  exact ⟨g, hx.get_lt ho hn hg⟩
theorem encItem_cells (i : Item) : (encItem i).cells = [.str i.t, .cplx .f64 (fl i.a) (fl i.b)] := rfl
theorem flat_items (l : List Item) : (flat (l.map encItem)).all AV.one = true := flat_one fun x _ => rfl
theorem ldN_obj {H : AH} {o : Nat} {x : AV} {n : Nat} (h : H.get o = some (.cells x.cells)) (hx : x = .agg x.cells) (hn : x.cells.length = n) : ldN n (.ptr o 0) H = some x := by
  subst hn
  rw [ldN_all h, ← hx]
theorem c_items_loop (o : Nat) (needs : Bool) {H0 : AH} (ho : o < H0.next) {K : AV → AH → Prop} : ∀ (n : Nat) (w : Wds), w.l.length = n → WSmall w.l → ∀ (done : List Item) (v : AV) (H : AH), done.length + n ≤ 1000000000 → IsGrow 2 encItem H0 v done H → IsWords H o w → ExtO [o] H0 H →
    (∀ v' H', IsGrow 2 encItem H0 v' (done ++ (itemsW needs w).1) H' → IsWords H' o (itemsW needs w).2 → ExtO [o] H0 H' → K v' H') → LoopP (r_script_words_items_p56 K) [.ptr o 0, .bool needs, v] H := by
  intro n
  induction n using Nat.strongRecOn with
  | ind n ih =>
    intro w hn hw done v H hd hg hs hx h
    refine .fold ?_
    obtain ⟨g, hgo⟩ := hs
    have oH : o < H.next := Nat.lt_of_lt_of_le ho hx.next
    have e0 : ([AV.sl g 1 (w.l.map .str), .bool w.bad])[0]? = some (.sl g 1 (w.l.map .str)) := rfl
    have e1 : ([AV.sl g 1 (w.l.map .str), .bool w.bad])[1]? = some (.bool w.bad) := rfl
    have epos : decide (((w.l.length : Nat) : Int) > 0) = decide (0 < w.l.length) := by rw [decide_eq_decide]; omega
    rw [itemsW_eq] at h
    simp only [r_script_words_items_p56, abin_i_add, abin_i_sub, abin_i_mul, abin_i_eql, abin_i_neq, abin_i_lss, abin_i_leq, abin_i_gtr, abin_i_geq, abin_s_eql, abin_s_neq, bnd_some, bnd_none, branch_bool, gwant_bool, gwant_nothing, aguard_some, wantE_some, pickV_bool, nilck_ptr, nilck_elem, aoff_ptr, aoff_elem, aun_not, aun_neg, lenStr_str, lenSl_nils, lenSl_sl, lenSl_osl, aextract_tup, ld1uelem, idxStr_str, amin2uint, amax2uint, rangeStr_str, sliceStr_from, sliceStr_to, List.getElem?_cons_zero, List.getElem?_cons_succ, Option.map_some, Option.bind_some, Int.toNat_natCast, Int.toNat_zero, Int.le_refl, Bool.not_true, Bool.not_false, Bool.not_not, Bool.false_eq_true, if_true, if_false, decide_eq_true_eq, beq_self_eq_true, bool_ft, bool_tf, decide_true, decide_false, reduceCtorEq, cmpNil, cmpRes, boxCells, AV.known, AV.cells, Nat.zero_add, and_self, and_true, true_and, ite_self, forall_const, not_true_eq_false, not_false_eq_true, ld1uptr hgo, e0, List.length_map, epos]
    by_cases hl : 0 < w.l.length
    · cases hb : w.bad with
      | true =>
        have hneg : ¬ (0 < w.l.length ∧ w.bad = false) := by simp [hb]
        rw [dif_neg hneg] at h
        simp only [hl, abin_i_add, abin_i_sub, abin_i_mul, abin_i_eql, abin_i_neq, abin_i_lss, abin_i_leq, abin_i_gtr, abin_i_geq, abin_s_eql, abin_s_neq, bnd_some, bnd_none, branch_bool, gwant_bool, gwant_nothing, aguard_some, wantE_some, pickV_bool, nilck_ptr, nilck_elem, aoff_ptr, aoff_elem, aun_not, aun_neg, lenStr_str, lenSl_nils, lenSl_sl, lenSl_osl, aextract_tup, ld1uelem, idxStr_str, amin2uint, amax2uint, rangeStr_str, sliceStr_from, sliceStr_to, List.getElem?_cons_zero, List.getElem?_cons_succ, Option.map_some, Option.bind_some, Int.toNat_natCast, Int.toNat_zero, Int.le_refl, Bool.not_true, Bool.not_false, Bool.not_not, Bool.false_eq_true, if_true, if_false, decide_eq_true_eq, beq_self_eq_true, bool_ft, bool_tf, decide_true, decide_false, reduceCtorEq, cmpNil, cmpRes, boxCells, AV.known, AV.cells, Nat.zero_add, and_self, and_true, true_and, ite_self, forall_const, not_true_eq_false, not_false_eq_true, ld1uptr hgo, e1, hb]
        have := h v H (by simpa using hg) ⟨g, hgo⟩ hx
        simpa using this
      | false =>
        rw [dif_pos ⟨hl, hb⟩] at h
        simp only at h
        simp only [hl, abin_i_add, abin_i_sub, abin_i_mul, abin_i_eql, abin_i_neq, abin_i_lss, abin_i_leq, abin_i_gtr, abin_i_geq, abin_s_eql, abin_s_neq, bnd_some, bnd_none, branch_bool, gwant_bool, gwant_nothing, aguard_some, wantE_some, pickV_bool, nilck_ptr, nilck_elem, aoff_ptr, aoff_elem, aun_not, aun_neg, lenStr_str, lenSl_nils, lenSl_sl, lenSl_osl, aextract_tup, ld1uelem, idxStr_str, amin2uint, amax2uint, rangeStr_str, sliceStr_from, sliceStr_to, List.getElem?_cons_zero, List.getElem?_cons_succ, Option.map_some, Option.bind_some, Int.toNat_natCast, Int.toNat_zero, Int.le_refl, Bool.not_true, Bool.not_false, Bool.not_not, Bool.false_eq_true, if_true, if_false, decide_eq_true_eq, beq_self_eq_true, bool_ft, bool_tf, decide_true, decide_false, reduceCtorEq, cmpNil, cmpRes, boxCells, AV.known, AV.cells, Nat.zero_add, and_self, and_true, true_and, ite_self, forall_const, not_true_eq_false, not_false_eq_true, ld1uptr hgo, e1, hb]
        refine c_words_next o w hw oH ⟨g, hgo⟩ fun H1 hx1 hs1 => ?_
        obtain ⟨hw1, _⟩ := nextW_small hw
        have oH1 : o < H1.next := Nat.lt_of_lt_of_le oH hx1.next
        have est : astruct [(0, 1), (1, 1)] [.str [], .cplx .f64 0 0] [(0, .str (nextW w).1)] = some (.agg [.str (nextW w).1, .cplx .f64 0 0]) := rfl
        have hput : ast 2 (.ptr H1.next 0) (.agg [.str (nextW w).1, .cplx .f64 0 0]) (H1.add (.cells [.str [], .cplx .f64 0 0])) = some (H1.add (.cells [.str (nextW w).1, .cplx .f64 0 0])) := by
          have := ast_all (cs := [.str (nextW w).1, .cplx .f64 0 0]) (get_add_self H1 (.cells [.str [], .cplx .f64 0 0])) rfl rfl
          rw [add_put] at this; exact this
        simp only [est, bnd_some, hput]
        have hit := itemW_lt needs w hl
        have hsm := itemW_small (needs := needs) hw
        -- what comes behind an item's reading
        have back : ∀ H2, ExtO [o] H0 H2 → H1.next < H2.next → IsWords H2 o (itemW needs w).2 → IsGrow 2 encItem H0 v done H2 → H2.get H1.next = some (.cells (encItem (itemW needs w).1).cells) → 
            r_script_words_items_p907 K (LoopP (r_script_words_items_p56 K)) (.ptr o 0) (.bool needs) v (.ptr H1.next 0) H2 := by
          intro H2 hx2 hlt hs2 hg2 hobj
          have hld := ldN_obj (x := encItem (itemW needs w).1) (n := 2) hobj rfl rfl
          simp only [r_script_words_items_p907, hld, bnd_some, buildSl_one 2 (encItem (itemW needs w).1) rfl rfl]
          refine hg2.appG hx2.next (xs := [(itemW needs w).1]) (.inr ⟨_, rfl⟩) (by simp; omega) (by simp; omega) (flat_items _) fun v' H3 hg3 hget3 hn3 ht3 => ?_
          have hx3 : ExtO [o] H0 H3 := ⟨Nat.le_trans hx2.next hn3, fun o' ho' hn' => by rw [hget3]; exact hx2.get o' ho' hn', fun c hc => (ht3 c hc).trans (hx2.tok c hc)⟩
          have hs3 : IsWords H3 o (itemW needs w).2 := by
            obtain ⟨g', hg'⟩ := hs2
            exact ⟨g', by rw [hget3]; exact hg'⟩
          refine ih _ (by omega) (itemW needs w).2 rfl hsm.1 (done ++ [(itemW needs w).1]) v' H3 (by simp; omega) hg3 hs3 hx3 fun v'' H'' a b c => ?_
          exact h v'' H'' (by simpa using a) b c
        have hx01 : ExtO [o] H0 H1 := hx.trans hx1
        have hobj1 := get_add_self H1 (.cells [.str (nextW w).1, .cplx .f64 0 0])
        have hg1 : IsGrow 2 encItem H0 v done (H1.add (.cells [.str (nextW w).1, .cplx .f64 0 0])) := hg.mono (by have := hx1.next; simp; omega) (fun c hc => hx1.tok c hc)
        have hs1' : IsWords (H1.add (.cells [.str (nextW w).1, .cplx .f64 0 0])) o (nextW w).2 := hs1.ext ((Ext.refl H1).add _) oH1
        cases hnd : needs with
        | false =>
          subst hnd
          simp only [abin_i_add, abin_i_sub, abin_i_mul, abin_i_eql, abin_i_neq, abin_i_lss, abin_i_leq, abin_i_gtr, abin_i_geq, abin_s_eql, abin_s_neq, bnd_some, bnd_none, branch_bool, gwant_bool, gwant_nothing, aguard_some, wantE_some, pickV_bool, nilck_ptr, nilck_elem, aoff_ptr, aoff_elem, aun_not, aun_neg, lenStr_str, lenSl_nils, lenSl_sl, lenSl_osl, aextract_tup, ld1uelem, idxStr_str, amin2uint, amax2uint, rangeStr_str, sliceStr_from, sliceStr_to, List.getElem?_cons_zero, List.getElem?_cons_succ, Option.map_some, Option.bind_some, Int.toNat_natCast, Int.toNat_zero, Int.le_refl, Bool.not_true, Bool.not_false, Bool.not_not, Bool.false_eq_true, if_true, if_false, decide_eq_true_eq, beq_self_eq_true, bool_ft, bool_tf, decide_true, decide_false, reduceCtorEq, cmpNil, cmpRes, boxCells, AV.known, AV.cells, Nat.zero_add, and_self, and_true, true_and, ite_self, forall_const, not_true_eq_false, not_false_eq_true]
          refine back _ (hx01.add _) (by simp) ?_ hg1 ?_
          · simpa [itemW] using hs1'
          · rw [hobj1, encItem_cells]
            simp [itemW, fl_zero]
        | true =>
          subst hnd
          simp only [abin_i_add, abin_i_sub, abin_i_mul, abin_i_eql, abin_i_neq, abin_i_lss, abin_i_leq, abin_i_gtr, abin_i_geq, abin_s_eql, abin_s_neq, bnd_some, bnd_none, branch_bool, gwant_bool, gwant_nothing, aguard_some, wantE_some, pickV_bool, nilck_ptr, nilck_elem, aoff_ptr, aoff_elem, aun_not, aun_neg, lenStr_str, lenSl_nils, lenSl_sl, lenSl_osl, aextract_tup, ld1uelem, idxStr_str, amin2uint, amax2uint, rangeStr_str, sliceStr_from, sliceStr_to, List.getElem?_cons_zero, List.getElem?_cons_succ, Option.map_some, Option.bind_some, Int.toNat_natCast, Int.toNat_zero, Int.le_refl, Bool.not_true, Bool.not_false, Bool.not_not, Bool.false_eq_true, if_true, if_false, decide_eq_true_eq, beq_self_eq_true, bool_ft, bool_tf, decide_true, decide_false, reduceCtorEq, cmpNil, cmpRes, boxCells, AV.known, AV.cells, Nat.zero_add, and_self, and_true, true_and, ite_self, forall_const, not_true_eq_false, not_false_eq_true]
          refine c_words_number o _ hw1 (by simp; omega) hs1' fun H3 hx3 hs3 => ?_
          obtain ⟨hw3, hl3⟩ := numberW_small hw1
          refine c_words_number o _ hw3 (by have := hx3.next; simp at this; omega) hs3 fun H4 hx4 hs4 => ?_
          obtain ⟨hw4, hl4⟩ := numberW_small hw3
          refine c_need_Of _ _ ?_
          have hx34 := hx3.trans hx4
          have hobj4 : H4.get H1.next = some (.cells [.str (nextW w).1, .cplx .f64 0 0]) := hx34.get_lt (by simp) (by simp; omega) hobj1
          have est2 := ast1uptr hobj4 (i := 1) (v := .cplx .f64 (fl (needOf (numberW (nextW w).2).1 (numberW (numberW (nextW w).2).2).1).1) (fl (needOf (numberW (nextW w).2).1 (numberW (numberW (nextW w).2).2).1).2)) rfl (by simp)
          simp only [abin_i_add, abin_i_sub, abin_i_mul, abin_i_eql, abin_i_neq, abin_i_lss, abin_i_leq, abin_i_gtr, abin_i_geq, abin_s_eql, abin_s_neq, bnd_some, bnd_none, branch_bool, gwant_bool, gwant_nothing, aguard_some, wantE_some, pickV_bool, nilck_ptr, nilck_elem, aoff_ptr, aoff_elem, aun_not, aun_neg, lenStr_str, lenSl_nils, lenSl_sl, lenSl_osl, aextract_tup, ld1uelem, idxStr_str, amin2uint, amax2uint, rangeStr_str, sliceStr_from, sliceStr_to, List.getElem?_cons_zero, List.getElem?_cons_succ, Option.map_some, Option.bind_some, Int.toNat_natCast, Int.toNat_zero, Int.le_refl, Bool.not_true, Bool.not_false, Bool.not_not, Bool.false_eq_true, if_true, if_false, decide_eq_true_eq, beq_self_eq_true, bool_ft, bool_tf, decide_true, decide_false, reduceCtorEq, cmpNil, cmpRes, boxCells, AV.known, AV.cells, Nat.zero_add, and_self, and_true, true_and, ite_self, forall_const, not_true_eq_false, not_false_eq_true, est2]
          have oH4 : o ≠ H1.next := by omega
          refine back _ (((hx01.add _).trans hx34).put (.inr (by have := hx01.next; omega)) _) (by have := hx34.next; simp at this ⊢; omega) ?_ (hg1.mono (by simpa using hx34.next) (fun c hc => hx34.tok c hc)) ?_
          · obtain ⟨g', hg'⟩ := hs4
            exact ⟨g', by rw [get_put_ne _ _ oH4]; exact hg'⟩
          · rw [get_put_self, encItem_cells]; rfl
    · have hneg : ¬ (0 < w.l.length ∧ w.bad = false) := fun h => hl h.1
      rw [dif_neg hneg] at h
      simp only [hl, abin_i_add, abin_i_sub, abin_i_mul, abin_i_eql, abin_i_neq, abin_i_lss, abin_i_leq, abin_i_gtr, abin_i_geq, abin_s_eql, abin_s_neq, bnd_some, bnd_none, branch_bool, gwant_bool, gwant_nothing, aguard_some, wantE_some, pickV_bool, nilck_ptr, nilck_elem, aoff_ptr, aoff_elem, aun_not, aun_neg, lenStr_str, lenSl_nils, lenSl_sl, lenSl_osl, aextract_tup, ld1uelem, idxStr_str, amin2uint, amax2uint, rangeStr_str, sliceStr_from, sliceStr_to, List.getElem?_cons_zero, List.getElem?_cons_succ, Option.map_some, Option.bind_some, Int.toNat_natCast, Int.toNat_zero, Int.le_refl, Bool.not_true, Bool.not_false, Bool.not_not, Bool.false_eq_true, if_true, if_false, decide_eq_true_eq, beq_self_eq_true, bool_ft, bool_tf, decide_true, decide_false, reduceCtorEq, cmpNil, cmpRes, boxCells, AV.known, AV.cells, Nat.zero_add, and_self, and_true, true_and, ite_self, forall_const, not_true_eq_false, not_false_eq_true]
      have := h v H (by simpa using hg) ⟨g, hgo⟩ hx
      simpa using this
end Go.Va

/-
  Contracts: a step of a line's words.
-/
set_option linter.unusedVariables false
set_option linter.unusedSimpArgs false
set_option maxRecDepth 100000
namespace Go.Va
def wRun : Bs := [114, 117, 110]
def wKill : Bs := [107, 105, 108, 108]
def wShut : Bs := [115, 104, 117, 116]
def wAck : Bs := [97, 99, 107]
def wAsk : Bs := [97, 115, 107]
def wWelcome : Bs := [119, 101, 108, 99, 111, 109, 101]
def wHello : Bs := [104, 101, 108, 108, 111]
def wReport : Bs := [114, 101, 112, 111, 114, 116]
def wGone : Bs := [103, 111, 110, 101]
def wTick : Bs := [116, 105, 99, 107]
def wFuse : Bs := [102, 117, 115, 101]
def wCrash : Bs := [99, 114, 97, 115, 104]
def kindsL : List (Bs × Int) := [(wRun, 1), (wKill, 2), (wShut, 3), (wAck, 4), (wAsk, 5), (wWelcome, 6), (wHello, 7), (wReport, 8), (wGone, 9)]
def kindsEs : List AEnt := kindsL.zipIdx.map fun x => ⟨.str x.1.1, .int .i64 x.1.2, x.2⟩
def kindOf (s : Bs) : Option Int := kindsL.lookup s
theorem c_script_kinds {H : AH} {K : AV → AH → Prop} (h : K (.map H.next) (H.add (.map kindsEs 9))) : r_script_kinds [] H K := by
  have e : ∀ (es : List AEnt) (c : Nat) (s : Bs) (n : Int), afind (.one .str) (.str s) es 0 = some none → mput (.one .str) (.map H.next) (.str s) (.int .i64 n) (H.add (.map es c)) = some (H.add (.map (es ++ [⟨.str s, .int .i64 n, c⟩]) (c + 1))) := by
    intro es c s n ha
    simp [mput, get_add_self, keyIs, ha, add_put]
  simp only [r_script_kinds]
  rw [e _ _ _ _ rfl, bnd_some, e _ _ _ _ rfl, bnd_some, e _ _ _ _ rfl, bnd_some, e _ _ _ _ rfl, bnd_some, e _ _ _ _ rfl, bnd_some, e _ _ _ _ rfl, bnd_some, e _ _ _ _ rfl, bnd_some, e _ _ _ _ rfl, bnd_some, e _ _ _ _ rfl, bnd_some]
  exact h
theorem afind_lookup (s : Bs) : ∀ (L : List (Bs × Int)) (k i : Nat), ∃ r, afind (.one .str) (.str s) ((L.zipIdx k).map fun x => ⟨.str x.1.1, .int .i64 x.1.2, x.2⟩) i = some r ∧ (r.map Prod.snd) = (L.lookup s).map (AV.int .i64)
  | [], k, i => ⟨none, rfl, rfl⟩
  | (a, n) :: L, k, i => by
    simp only [List.zipIdx_cons, List.map_cons, afind, keySame, same1, List.lookup_cons]
    cases hs : (s == a) with
    | true => exact ⟨_, rfl, rfl⟩
    | false => exact afind_lookup s L (k + 1) (i + 1)
theorem look_kinds (s : Bs) {H : AH} {r : Nat} (h : H.get r = some (.map kindsEs 9)) : look (.one .str) (.int .i64 0) (.map r) (.str s) true H = some (.tup [.int .i64 ((kindOf s).getD 0), .bool (kindOf s).isSome]) := by
  obtain ⟨x, h1, h2⟩ := afind_lookup s kindsL 0 0
  have e : afind (.one .str) (.str s) kindsEs 0 = some x := h1
  simp only [look, keyIs, if_true, ments, h, Option.bind_some, e, Option.map_some]
  unfold kindOf
  cases hk : List.lookup s kindsL with
  | none =>
    rw [hk] at h2
    cases x with
    | none => rfl
    | some p => simp at h2
  | some n =>
    rw [hk] at h2
    cases x with
    | none => simp at h2
    | some p => obtain ⟨j, v⟩ := p; simp at h2; subst h2; rfl

-- ---------------------------------------------------------------- fields
def fieldW (f : UInt8) (w : Wds) (m : Msg) : Wds × Msg :=
  if f = 70 then let r := nextW w; (r.2, { m with f := r.1 })
  else if f = 69 then let r := nextW w; (r.2, { m with e := r.1 })
  else if f = 84 then let r := nextW w; (r.2, { m with t := r.1 })
  else if f = 78 then let r := numberW w; (r.2, { m with n := r.1 })
  else if f = 83 then let r := numberW w; (r.2, { m with state := r.1 })
  else if f = 85 then let r := numberW w; (r.2, { m with num := r.1 })
  else if f = 80 then let r := numberW w; (r.2, { m with epoch := r.1 })
  else if f = 73 then let r := itemsW (m.kind == 1) w; (r.2, { m with items := r.1 })
  else (w, m)
def fieldsW : Bs → Wds → Msg → Wds × Msg
  | [], w, m => (w, m)
  | f :: fs, w, m => let r := fieldW f w m; fieldsW fs r.1 r.2
theorem itemsW_small (needs : Bool) : ∀ (n : Nat) (w : Wds), w.l.length = n → WSmall w.l → WSmall (itemsW needs w).2.l ∧ (itemsW needs w).1.length ≤ n ∧ ∀ i ∈ (itemsW needs w).1, ItemSmall i := by
  intro n
  induction n using Nat.strongRecOn with
  | ind n ih =>
    intro w hn hw
    rw [itemsW_eq]
    by_cases hc : 0 < w.l.length ∧ w.bad = false
    · rw [dif_pos hc]
      have hlt := itemW_lt needs w hc.1
      obtain ⟨h1, h2⟩ := itemW_small (needs := needs) hw
      obtain ⟨a, b, c⟩ := ih _ (by omega) (itemW needs w).2 rfl h1
      refine ⟨a, by simp; omega, fun i hi => ?_⟩
      rcases List.mem_cons.1 hi with rfl | hi
      · exact h2
      · exact c i hi
    · rw [dif_neg hc]
      exact ⟨hw, by simp, by simp⟩
theorem fieldW_small (f : UInt8) (w : Wds) (m : Msg) (hw : WSmall w.l) (hm : MsgSmall m) : WSmall (fieldW f w m).1.l ∧ MsgSmall (fieldW f w m).2 := by
  obtain ⟨hf, he, ht, hi⟩ := hm
  obtain ⟨n1, n2⟩ := nextW_small hw
  obtain ⟨k1, k2⟩ := numberW_small hw
  obtain ⟨i1, i2, i3⟩ := itemsW_small (m.kind == 1) _ w rfl hw
  unfold fieldW
  split
  · exact ⟨n1, n2, he, ht, hi⟩
  split
  · exact ⟨n1, hf, n2, ht, hi⟩
  split
  · exact ⟨n1, hf, he, n2, hi⟩
  split
  · exact ⟨k1, hf, he, ht, hi⟩
  split
  · exact ⟨k1, hf, he, ht, hi⟩
  split
  · exact ⟨k1, hf, he, ht, hi⟩
  split
  · exact ⟨k1, hf, he, ht, hi⟩
  split
  · exact ⟨i1, hf, he, ht, by have := hw.1; simp only; omega, i3⟩
  · exact ⟨hw, hf, he, ht, hi⟩
theorem IsGrow.one {α : Type} {sz : Nat} {enc : α → AV} {H0 H : AH} {v : AV} {l : List α} (h : IsGrow sz enc H0 v l H) : v.one = true := by
  rcases h with ⟨rfl, _⟩ | ⟨c, t, rfl, _⟩ <;> rfl
theorem IsSl.one {α : Type} {sz : Nat} {enc : α → AV} {v : AV} {l : List α} (h : IsSl sz enc v l) : v.one = true := by
  rcases h with ⟨rfl, _⟩ | ⟨g, rfl⟩ <;> rfl
theorem c_words_field (o p : Nat) (f : UInt8) (w : Wds) (s : Step) (hw : WSmall w.l) {H : AH} (ho : o < H.next) (hp : p < H.next) (hop : o ≠ p) (hs : IsWords H o w) {iv : AV} (hiv : IsItems iv s.msg.items) (hobj : H.get p = some (.cells (stepCells s iv))) {K : AV → AH → Prop}
    (h : ∀ H' iv', ExtO [o, p] H H' → IsWords H' o (fieldW f w s.msg).1 → H'.get p = some (.cells (stepCells { s with msg := (fieldW f w s.msg).2 } iv')) → IsItems iv' (fieldW f w s.msg).2.items → K (.tup []) H') : r_script_words_field [.ptr o 0, .ptr p 1, .int .i32 f.toNat] H K := by
  have hsub : ∀ x ∈ [o], x ∈ [o, p] := by simp
  have text : ∀ (k : Nat) (m' : Msg), m'.items = s.msg.items → (∀ iv, (stepCells s iv).set (1 + k) (.str (nextW w).1) = stepCells { s with msg := m' } iv) → 1 + k < 12 → 
      (∀ H' iv', ExtO [o, p] H H' → IsWords H' o (nextW w).2 → H'.get p = some (.cells (stepCells { s with msg := m' } iv')) → IsItems iv' m'.items → K (.tup []) H') →
      r_script_words_next [.ptr o 0] H fun t H1 => bnd (ast 1 (.ptr p (1 + k)) t H1) fun H2 => K (.tup []) H2 := by
    intro k m' hmi hset hk hK
    refine c_words_next o w hw ho hs fun H1 hx1 hs1 => ?_
    have hobj1 := hx1.get_lt hp (by simp [Ne.symm hop]) hobj
    rw [ast1uptr hobj1 (i := 1 + k) (v := .str (nextW w).1) rfl (by show 1 + k < 12; exact hk), bnd_some, hset]
    refine hK _ iv ((hx1.mono hsub).put (.inl (by simp)) _) ?_ (get_put_self _ _ _) (by rw [hmi]; exact hiv)
    obtain ⟨g, hg⟩ := hs1
    exact ⟨g, by rw [get_put_ne _ _ hop]; exact hg⟩
  have num : ∀ (k : Nat) (m' : Msg), m'.items = s.msg.items → (∀ iv, (stepCells s iv).set (1 + k) (.int .i64 (numberW w).1) = stepCells { s with msg := m' } iv) → 1 + k < 12 → 
      (∀ H' iv', ExtO [o, p] H H' → IsWords H' o (numberW w).2 → H'.get p = some (.cells (stepCells { s with msg := m' } iv')) → IsItems iv' m'.items → K (.tup []) H') →
      r_script_words_number [.ptr o 0] H fun t H1 => bnd (ast 1 (.ptr p (1 + k)) t H1) fun H2 => K (.tup []) H2 := by
    intro k m' hmi hset hk hK
    refine c_words_number o w hw ho hs fun H1 hx1 hs1 => ?_
    have hobj1 := hx1.get_lt hp (by simp [Ne.symm hop]) hobj
    rw [ast1uptr hobj1 (i := 1 + k) (v := .int .i64 (numberW w).1) rfl (by show 1 + k < 12; exact hk), bnd_some, hset]
    refine hK _ iv ((hx1.mono hsub).put (.inl (by simp)) _) ?_ (get_put_self _ _ _) (by rw [hmi]; exact hiv)
    obtain ⟨g, hg⟩ := hs1
    exact ⟨g, by rw [get_put_ne _ _ hop]; exact hg⟩
  simp only [r_script_words_field, abin_i_add, abin_i_sub, abin_i_mul, abin_i_eql, abin_i_neq, abin_i_lss, abin_i_leq, abin_i_gtr, abin_i_geq, abin_s_eql, abin_s_neq, bnd_some, bnd_none, branch_bool, gwant_bool, gwant_nothing, aguard_some, wantE_some, pickV_bool, nilck_ptr, nilck_elem, aoff_ptr, aoff_elem, aun_not, aun_neg, lenStr_str, lenSl_nils, lenSl_sl, lenSl_osl, aextract_tup, ld1uelem, idxStr_str, amin2uint, amax2uint, rangeStr_str, sliceStr_from, sliceStr_to, List.getElem?_cons_zero, List.getElem?_cons_succ, Option.map_some, Option.bind_some, Int.toNat_natCast, Int.toNat_zero, Int.le_refl, Bool.not_true, Bool.not_false, Bool.not_not, Bool.false_eq_true, if_true, if_false, decide_eq_true_eq, beq_self_eq_true, bool_ft, bool_tf, decide_true, decide_false, reduceCtorEq, cmpNil, cmpRes, boxCells, AV.known, AV.cells, Nat.zero_add, and_self, and_true, true_and, ite_self, forall_const, not_true_eq_false, not_false_eq_true]
  unfold fieldW at h
  by_cases h1 : f = 70
  · subst h1
    exact text 1 { s.msg with f := (nextW w).1 } rfl (fun _ => rfl) (by omega) (by simpa using h)
  by_cases h2 : f = 69
  · subst h2
    exact text 2 { s.msg with e := (nextW w).1 } rfl (fun _ => rfl) (by omega) (by simpa using h)
  by_cases h3 : f = 84
  · subst h3
    exact text 3 { s.msg with t := (nextW w).1 } rfl (fun _ => rfl) (by omega) (by simpa using h)
  by_cases h4 : f = 78
  · subst h4
    exact num 4 { s.msg with n := (numberW w).1 } rfl (fun _ => rfl) (by omega) (by simpa using h)
  by_cases h5 : f = 83
  · subst h5
    exact num 5 { s.msg with state := (numberW w).1 } rfl (fun _ => rfl) (by omega) (by simpa using h)
  by_cases h6 : f = 85
  · subst h6
    exact num 6 { s.msg with num := (numberW w).1 } rfl (fun _ => rfl) (by omega) (by simpa using h)
  by_cases h7 : f = 80
  · subst h7
    exact num 7 { s.msg with epoch := (numberW w).1 } rfl (fun _ => rfl) (by omega) (by simpa using h)
  by_cases h8 : f = 73
  · subst h8
    have e1 : (stepCells s iv)[1]? = some (.int .i64 s.msg.kind) := rfl
    simp only [h1, h2, h3, h4, h5, h6, h7, if_false, if_true] at h
    have d : ∀ c : Int, c ∈ [(70 : Int), 69, 84, 78, 83, 85, 80] → ((((73 : UInt8).toNat : Nat) : Int) == c) = false := by decide
    simp only [d 70 (by simp), d 69 (by simp), d 84 (by simp), d 78 (by simp), d 83 (by simp), d 85 (by simp), d 80 (by simp), abin_i_add, abin_i_sub, abin_i_mul, abin_i_eql, abin_i_neq, abin_i_lss, abin_i_leq, abin_i_gtr, abin_i_geq, abin_s_eql, abin_s_neq, bnd_some, bnd_none, branch_bool, gwant_bool, gwant_nothing, aguard_some, wantE_some, pickV_bool, nilck_ptr, nilck_elem, aoff_ptr, aoff_elem, aun_not, aun_neg, lenStr_str, lenSl_nils, lenSl_sl, lenSl_osl, aextract_tup, ld1uelem, idxStr_str, amin2uint, amax2uint, rangeStr_str, sliceStr_from, sliceStr_to, List.getElem?_cons_zero, List.getElem?_cons_succ, Option.map_some, Option.bind_some, Int.toNat_natCast, Int.toNat_zero, Int.le_refl, Bool.not_true, Bool.not_false, Bool.not_not, Bool.false_eq_true, if_true, if_false, decide_eq_true_eq, beq_self_eq_true, bool_ft, bool_tf, decide_true, decide_false, reduceCtorEq, cmpNil, cmpRes, boxCells, AV.known, AV.cells, Nat.zero_add, and_self, and_true, true_and, ite_self, forall_const, not_true_eq_false, not_false_eq_true, Nat.add_zero, ld1uptr hobj, e1, show ((((73 : UInt8).toNat : Nat) : Int) == 73) = true from rfl, r_script_words_items]
    refine c_items_loop o (s.msg.kind == 1) ho _ w rfl hw [] .nils H (by have := hw.1; simp; omega) (.inl ⟨rfl, rfl⟩) hs (ExtO.refl _ _) fun v' H1 hg1 hs1 hx1 => ?_
    have hobj1 := hx1.get_lt hp (by simp [Ne.symm hop]) hobj
    have hsl := hg1.isSl
    simp only [List.nil_append] at hsl
    have est := ast1uptr hobj1 (i := 9) (v := v') hg1.one (by show 9 < 12; omega)
    simp only [abin_i_add, abin_i_sub, abin_i_mul, abin_i_eql, abin_i_neq, abin_i_lss, abin_i_leq, abin_i_gtr, abin_i_geq, abin_s_eql, abin_s_neq, bnd_some, bnd_none, branch_bool, gwant_bool, gwant_nothing, aguard_some, wantE_some, pickV_bool, nilck_ptr, nilck_elem, aoff_ptr, aoff_elem, aun_not, aun_neg, lenStr_str, lenSl_nils, lenSl_sl, lenSl_osl, aextract_tup, ld1uelem, idxStr_str, amin2uint, amax2uint, rangeStr_str, sliceStr_from, sliceStr_to, List.getElem?_cons_zero, List.getElem?_cons_succ, Option.map_some, Option.bind_some, Int.toNat_natCast, Int.toNat_zero, Int.le_refl, Bool.not_true, Bool.not_false, Bool.not_not, Bool.false_eq_true, if_true, if_false, decide_eq_true_eq, beq_self_eq_true, bool_ft, bool_tf, decide_true, decide_false, reduceCtorEq, cmpNil, cmpRes, boxCells, AV.known, AV.cells, Nat.zero_add, and_self, and_true, true_and, ite_self, forall_const, not_true_eq_false, not_false_eq_true, Nat.reduceAdd, est]
    refine h _ v' ((hx1.mono hsub).put (.inl (by simp)) _) ?_ (by rw [get_put_self]; rfl) hsl
    obtain ⟨g, hg⟩ := hs1
    exact ⟨g, by rw [get_put_ne _ _ hop]; exact hg⟩
  · simp only [h1, h2, h3, h4, h5, h6, h7, h8, if_false] at h
    have d : ∀ c : UInt8, f ≠ c → (((f.toNat : Nat) : Int) == ((c.toNat : Nat) : Int)) = false := by
      intro c hc
      simp only [beq_eq_false_iff_ne, ne_eq]
      intro e; exact hc (UInt8.toNat_inj.1 (by omega))
    have d1 := d 70 h1; have d2 := d 69 h2; have d3 := d 84 h3; have d4 := d 78 h4; have d5 := d 83 h5; have d6 := d 85 h6; have d7 := d 80 h7; have d8 := d 73 h8
    have t1 : (((70 : UInt8).toNat : Nat) : Int) = 70 := rfl
    have t2 : (((69 : UInt8).toNat : Nat) : Int) = 69 := rfl
    have t3 : (((84 : UInt8).toNat : Nat) : Int) = 84 := rfl
    have t4 : (((78 : UInt8).toNat : Nat) : Int) = 78 := rfl
    have t5 : (((83 : UInt8).toNat : Nat) : Int) = 83 := rfl
    have t6 : (((85 : UInt8).toNat : Nat) : Int) = 85 := rfl
    have t7 : (((80 : UInt8).toNat : Nat) : Int) = 80 := rfl
    have t8 : (((73 : UInt8).toNat : Nat) : Int) = 73 := rfl
    rw [t1] at d1; rw [t2] at d2; rw [t3] at d3; rw [t4] at d4; rw [t5] at d5; rw [t6] at d6; rw [t7] at d7; rw [t8] at d8
    simp only [d1, d2, d3, d4, d5, d6, d7, d8, abin_i_add, abin_i_sub, abin_i_mul, abin_i_eql, abin_i_neq, abin_i_lss, abin_i_leq, abin_i_gtr, abin_i_geq, abin_s_eql, abin_s_neq, bnd_some, bnd_none, branch_bool, gwant_bool, gwant_nothing, aguard_some, wantE_some, pickV_bool, nilck_ptr, nilck_elem, aoff_ptr, aoff_elem, aun_not, aun_neg, lenStr_str, lenSl_nils, lenSl_sl, lenSl_osl, aextract_tup, ld1uelem, idxStr_str, amin2uint, amax2uint, rangeStr_str, sliceStr_from, sliceStr_to, List.getElem?_cons_zero, List.getElem?_cons_succ, Option.map_some, Option.bind_some, Int.toNat_natCast, Int.toNat_zero, Int.le_refl, Bool.not_true, Bool.not_false, Bool.not_not, Bool.false_eq_true, if_true, if_false, decide_eq_true_eq, beq_self_eq_true, bool_ft, bool_tf, decide_true, decide_false, reduceCtorEq, cmpNil, cmpRes, boxCells, AV.known, AV.cells, Nat.zero_add, and_self, and_true, true_and, ite_self, forall_const, not_true_eq_false, not_false_eq_true]
    exact h H iv (ExtO.refl _ _) hs hobj hiv
end Go.Va

/-
  Contracts: a step of a line's words.
-/
set_option linter.unusedVariables false
set_option linter.unusedSimpArgs false
set_option maxRecDepth 100000
namespace Go.Va
def okW (w : Wds) : Bool := !w.bad && w.l.isEmpty
def stepS (l : List Bs) : Step × Bool :=
  let w : Wds := ⟨l.tail, false⟩
  let h := l.headD []
  if h = wTick then let r := numberW w; ({ kind := 2, n := r.1 }, okW r.2)
  else if h = wFuse then let r := numberW w; ({ kind := 3, n := r.1 }, okW r.2)
  else if h = wCrash then
    let r := numberW w
    if 0 < r.2.l.length then let q := numberW r.2; ({ kind := 4, n := r.1, m := q.1 }, okW q.2)
    else ({ kind := 4, n := r.1, m := -1 }, okW r.2)
  else match kindOf h with
    | none => ({}, false)
    | some k => let r := fieldsW (fieldsOf k) w { kind := k }; ({ kind := 1, msg := r.2 }, okW r.1 && checkM r.2)

theorem length_stepCells (s : Step) (iv : AV) : (stepCells s iv).length = 12 := rfl
theorem stepCells_one (s : Step) {iv : AV} (h : iv.one = true) : (stepCells s iv).all AV.one = true := by
  have e : (iv.one && true) = true := by rw [h]; rfl
  show (true && (true && (true && (true && (true && (true && (true && (true && (true && (iv.one && (true && (true && true)))))))))))) = true
  rw [h]; rfl
theorem ldN12 {H : AH} {p : Nat} {cs : List AV} (h : H.get p = some (.cells cs)) (hl : cs.length = 12) : ldN 12 (.ptr p 0) H = some (.agg cs) := by rw [← hl]; exact ldN_all h
theorem ast12 {H : AH} {p : Nat} {cs ys : List AV} (h : H.get p = some (.cells ys)) (hy : ys.length = 12) (hl : cs.length = 12) (h1 : cs.all AV.one = true) : ast 12 (.ptr p 0) (.agg cs) H = some (H.put p (.cells cs)) := by
  rw [← hl]; exact ast_all h (by rw [hl, hy]) h1
theorem lenW (g : Grow) (l : List Bs) : lenSl (.sl g 1 (l.map .str)) = some (.int .i64 l.length) := by simp
theorem len0 (l : List Bs) : ((((l.map AV.str).length : Nat) : Int) == 0) = l.isEmpty := by
  cases l with
  | nil => rfl
  | cons a l => simp only [List.map_cons, List.length_cons, List.isEmpty_cons, beq_eq_false_iff_ne, ne_eq]; omega
/-- what stands in the words' object -/
theorem words_at {H : AH} {o : Nat} {w : Wds} (h : IsWords H o w) : ∃ g, ld1 (.ptr o 0) H = some (.sl g 1 (w.l.map .str)) ∧ ld1 (.ptr o 1) H = some (.bool w.bad) := by
  obtain ⟨g, hg⟩ := h
  exact ⟨g, by rw [ld1uptr hg]; rfl, by rw [ld1uptr hg]; rfl⟩
theorem IsWords.putO {H : AH} {o p : Nat} {w : Wds} (h : IsWords H o w) (hn : o ≠ p) (x : AObj) : IsWords (H.put p x) o w := by
  obtain ⟨g, hg⟩ := h
  exact ⟨g, by rw [get_put_ne _ _ hn]; exact hg⟩

theorem c_step_fin (o p r : Nat) (w : Wds) (s : Step) {iv : AV} (hiv : iv.one = true) {H : AH} (hs : IsWords H o w) (hor : o ≠ r) (hpr : p ≠ r) (hobj : H.get p = some (.cells (stepCells s iv))) {rc : List AV} (hr : H.get r = some (.cells rc)) (hrl : rc.length = 12) {K : AV → AH → Prop}
    (h : ∀ H', ExtO [r] H H' → K (.tup [.agg (stepCells s iv), .bool (okW w)]) H') : r_script_step_p15099 K (.ptr r 0) (.ptr o 0) (.ptr p 0) H := by
  obtain ⟨g, e0, e1⟩ := words_at hs
  have a1 := ast12 (cs := stepCells s iv) hr hrl rfl (stepCells_one s hiv)
  have hs2 := hs.putO hor (.cells (stepCells s iv))
  obtain ⟨g2, f0, f1⟩ := words_at hs2
  have hgg : g2 = g := by
    obtain ⟨g', hg'⟩ := hs
    have h1 : ld1 (.ptr o 0) H = some (.sl g' 1 (w.l.map .str)) := by rw [ld1uptr hg']; rfl
    have h2 : ld1 (.ptr o 0) (H.put r (.cells (stepCells s iv))) = some (.sl g' 1 (w.l.map .str)) := by rw [ld1uptr (show (H.put r (.cells (stepCells s iv))).get o = _ by rw [get_put_ne _ _ hor]; exact hg')]; rfl
    rw [h1] at e0; rw [h2] at f0
    cases e0; cases f0; rfl
  subst hgg
  have r2 := ldN12 (get_put_self H r (.cells (stepCells s iv))) rfl
  have fin := h (H.put r (.cells (stepCells s iv))) ((ExtO.refl [r] H).put (o := r) (.inl (by simp)) (.cells (stepCells s iv)))
  simp only [r_script_step_p15099, abin_i_add, abin_i_sub, abin_i_mul, abin_i_eql, abin_i_neq, abin_i_lss, abin_i_leq, abin_i_gtr, abin_i_geq, abin_s_eql, abin_s_neq, bnd_some, bnd_none, branch_bool, gwant_bool, gwant_nothing, aguard_some, wantE_some, pickV_bool, nilck_ptr, nilck_elem, aoff_ptr, aoff_elem, aun_not, aun_neg, lenStr_str, lenSl_nils, lenSl_sl, lenSl_osl, aextract_tup, ld1uelem, idxStr_str, amin2uint, amax2uint, rangeStr_str, sliceStr_from, sliceStr_to, List.getElem?_cons_zero, List.getElem?_cons_succ, Option.map_some, Option.bind_some, Int.toNat_natCast, Int.toNat_zero, Int.le_refl, Bool.not_true, Bool.not_false, Bool.not_not, Bool.false_eq_true, if_true, if_false, decide_eq_true_eq, beq_self_eq_true, bool_ft, bool_tf, decide_true, decide_false, reduceCtorEq, cmpNil, cmpRes, boxCells, AV.known, AV.cells, Nat.zero_add, and_self, and_true, true_and, ite_self, forall_const, not_true_eq_false, not_false_eq_true, ldN12 hobj rfl, e1]
  unfold okW at fin
  cases hb : w.bad with
  | true =>
    rw [hb] at fin
    simpa only [abin_i_add, abin_i_sub, abin_i_mul, abin_i_eql, abin_i_neq, abin_i_lss, abin_i_leq, abin_i_gtr, abin_i_geq, abin_s_eql, abin_s_neq, bnd_some, bnd_none, branch_bool, gwant_bool, gwant_nothing, aguard_some, wantE_some, pickV_bool, nilck_ptr, nilck_elem, aoff_ptr, aoff_elem, aun_not, aun_neg, lenStr_str, lenSl_nils, lenSl_sl, lenSl_osl, aextract_tup, ld1uelem, idxStr_str, amin2uint, amax2uint, rangeStr_str, sliceStr_from, sliceStr_to, List.getElem?_cons_zero, List.getElem?_cons_succ, Option.map_some, Option.bind_some, Int.toNat_natCast, Int.toNat_zero, Int.le_refl, Bool.not_true, Bool.not_false, Bool.not_not, Bool.false_eq_true, if_true, if_false, decide_eq_true_eq, beq_self_eq_true, bool_ft, bool_tf, decide_true, decide_false, reduceCtorEq, cmpNil, cmpRes, boxCells, AV.known, AV.cells, Nat.zero_add, and_self, and_true, true_and, ite_self, forall_const, not_true_eq_false, not_false_eq_true, a1, r2, forall_const, not_true_eq_false, Bool.false_and, false_implies] using fin
  | false =>
    rw [hb] at fin
    simp only [abin_i_add, abin_i_sub, abin_i_mul, abin_i_eql, abin_i_neq, abin_i_lss, abin_i_leq, abin_i_gtr, abin_i_geq, abin_s_eql, abin_s_neq, bnd_some, bnd_none, branch_bool, gwant_bool, gwant_nothing, aguard_some, wantE_some, pickV_bool, nilck_ptr, nilck_elem, aoff_ptr, aoff_elem, aun_not, aun_neg, lenStr_str, lenSl_nils, lenSl_sl, lenSl_osl, aextract_tup, ld1uelem, idxStr_str, amin2uint, amax2uint, rangeStr_str, sliceStr_from, sliceStr_to, List.getElem?_cons_zero, List.getElem?_cons_succ, Option.map_some, Option.bind_some, Int.toNat_natCast, Int.toNat_zero, Int.le_refl, Bool.not_true, Bool.not_false, Bool.not_not, Bool.false_eq_true, if_true, if_false, decide_eq_true_eq, beq_self_eq_true, bool_ft, bool_tf, decide_true, decide_false, reduceCtorEq, cmpNil, cmpRes, boxCells, AV.known, AV.cells, Nat.zero_add, and_self, and_true, true_and, ite_self, forall_const, not_true_eq_false, not_false_eq_true, e0, len0, a1, r2, f0]
    simpa only [abin_i_add, abin_i_sub, abin_i_mul, abin_i_eql, abin_i_neq, abin_i_lss, abin_i_leq, abin_i_gtr, abin_i_geq, abin_s_eql, abin_s_neq, bnd_some, bnd_none, branch_bool, gwant_bool, gwant_nothing, aguard_some, wantE_some, pickV_bool, nilck_ptr, nilck_elem, aoff_ptr, aoff_elem, aun_not, aun_neg, lenStr_str, lenSl_nils, lenSl_sl, lenSl_osl, aextract_tup, ld1uelem, idxStr_str, amin2uint, amax2uint, rangeStr_str, sliceStr_from, sliceStr_to, List.getElem?_cons_zero, List.getElem?_cons_succ, Option.map_some, Option.bind_some, Int.toNat_natCast, Int.toNat_zero, Int.le_refl, Bool.not_true, Bool.not_false, Bool.not_not, Bool.false_eq_true, if_true, if_false, decide_eq_true_eq, beq_self_eq_true, bool_ft, bool_tf, decide_true, decide_false, reduceCtorEq, cmpNil, cmpRes, boxCells, AV.known, AV.cells, Nat.zero_add, and_self, and_true, true_and, ite_self, forall_const, not_true_eq_false, not_false_eq_true, Bool.true_and] using fin
theorem c_step_loop (o p r it : Nat) (fs : Bs) (hfs : ∀ c ∈ fs, c.toNat < 128) {H0 : AH} (ho : o < H0.next) (hp : p < H0.next) (hr : r < H0.next) (hit : it < H0.next) (hop : o ≠ p) (hor : o ≠ r) (hpr : p ≠ r) (hoi : o ≠ it) (hpi : p ≠ it) (hri : r ≠ it) {K : AV → AH → Prop} :
    ∀ (rest : Bs) (pos : Nat) (w : Wds) (s : Step) (iv : AV) (H : AH), fs.drop pos = rest → WSmall w.l → MsgSmall s.msg → H0.next ≤ H.next → IsWords H o w → IsItems iv s.msg.items → H.get p = some (.cells (stepCells s iv)) → (∃ rc, H.get r = some (.cells rc) ∧ rc.length = 12) → H.get it = some (.sIter fs pos) → ExtO [o, p, it] H0 H →
      (∀ H' iv', ExtO [o, p, r, it] H0 H' → IsItems iv' (fieldsW rest w s.msg).2.items → K (.tup [.agg (stepCells { s with msg := (fieldsW rest w s.msg).2 } iv'), .bool (okW (fieldsW rest w s.msg).1 && checkM (fieldsW rest w s.msg).2)]) H') →
      LoopP (r_script_step_p2036 K) [.ptr r 0, .ptr o 0, .ptr p 0, .iter it] H
  | [], pos, w, s, iv, H, hd, hw, hm, hn, hs, hiv, hobj, hrc, hiter, hx, h => by
    refine .fold ?_
    have hl : fs.length ≤ pos := by simpa using hd
    obtain ⟨rc, hrg, hrl⟩ := hrc
    obtain ⟨g, e0, e1⟩ := words_at hs
    simp only [fieldsW] at h
    have hsub : ∀ x ∈ [o, p, it], x ∈ [o, p, r, it] := by simp
    simp only [r_script_step_p2036, nextStr_end hiter hl, abin_i_add, abin_i_sub, abin_i_mul, abin_i_eql, abin_i_neq, abin_i_lss, abin_i_leq, abin_i_gtr, abin_i_geq, abin_s_eql, abin_s_neq, bnd_some, bnd_none, branch_bool, gwant_bool, gwant_nothing, aguard_some, wantE_some, pickV_bool, nilck_ptr, nilck_elem, aoff_ptr, aoff_elem, aun_not, aun_neg, lenStr_str, lenSl_nils, lenSl_sl, lenSl_osl, aextract_tup, ld1uelem, idxStr_str, amin2uint, amax2uint, rangeStr_str, sliceStr_from, sliceStr_to, List.getElem?_cons_zero, List.getElem?_cons_succ, Option.map_some, Option.bind_some, Int.toNat_natCast, Int.toNat_zero, Int.le_refl, Bool.not_true, Bool.not_false, Bool.not_not, Bool.false_eq_true, if_true, if_false, decide_eq_true_eq, beq_self_eq_true, bool_ft, bool_tf, decide_true, decide_false, reduceCtorEq, cmpNil, cmpRes, boxCells, AV.known, AV.cells, Nat.zero_add, and_self, and_true, true_and, ite_self, forall_const, not_true_eq_false, not_false_eq_true, ldN12 hobj rfl, e1]
    have a1 := ast12 (cs := stepCells s iv) hrg hrl rfl (stepCells_one s hiv.one)
    have r2 := ldN12 (get_put_self H r (.cells (stepCells s iv))) rfl
    have fin := h (H.put r (.cells (stepCells s iv))) iv ((hx.mono hsub).put (o := r) (.inl (by simp)) _) hiv
    have e9 : (stepCells s iv).drop 1 = msgCells s.msg iv ++ [.int .i64 s.n, .int .i64 s.m] := rfl
    have hld9 : ldN 9 (.ptr p 1) H = some (.agg (msgCells s.msg iv)) := by
      rw [ldN_ptr hobj 9 1 (by show 1 + 9 ≤ 12; omega), e9]; rfl
    unfold okW at fin
    cases hb : w.bad with
    | true =>
      rw [hb] at fin
      simp only [Bool.not_true, Bool.false_and] at fin
      simpa only [abin_i_add, abin_i_sub, abin_i_mul, abin_i_eql, abin_i_neq, abin_i_lss, abin_i_leq, abin_i_gtr, abin_i_geq, abin_s_eql, abin_s_neq, bnd_some, bnd_none, branch_bool, gwant_bool, gwant_nothing, aguard_some, wantE_some, pickV_bool, nilck_ptr, nilck_elem, aoff_ptr, aoff_elem, aun_not, aun_neg, lenStr_str, lenSl_nils, lenSl_sl, lenSl_osl, aextract_tup, ld1uelem, idxStr_str, amin2uint, amax2uint, rangeStr_str, sliceStr_from, sliceStr_to, List.getElem?_cons_zero, List.getElem?_cons_succ, Option.map_some, Option.bind_some, Int.toNat_natCast, Int.toNat_zero, Int.le_refl, Bool.not_true, Bool.not_false, Bool.not_not, Bool.false_eq_true, if_true, if_false, decide_eq_true_eq, beq_self_eq_true, bool_ft, bool_tf, decide_true, decide_false, reduceCtorEq, cmpNil, cmpRes, boxCells, AV.known, AV.cells, Nat.zero_add, and_self, and_true, true_and, ite_self, forall_const, not_true_eq_false, not_false_eq_true, ldN12 hobj rfl, a1, r2] using fin
    | false =>
      rw [hb] at fin
      simp only [Bool.not_false, Bool.true_and] at fin
      simp only [abin_i_add, abin_i_sub, abin_i_mul, abin_i_eql, abin_i_neq, abin_i_lss, abin_i_leq, abin_i_gtr, abin_i_geq, abin_s_eql, abin_s_neq, bnd_some, bnd_none, branch_bool, gwant_bool, gwant_nothing, aguard_some, wantE_some, pickV_bool, nilck_ptr, nilck_elem, aoff_ptr, aoff_elem, aun_not, aun_neg, lenStr_str, lenSl_nils, lenSl_sl, lenSl_osl, aextract_tup, ld1uelem, idxStr_str, amin2uint, amax2uint, rangeStr_str, sliceStr_from, sliceStr_to, List.getElem?_cons_zero, List.getElem?_cons_succ, Option.map_some, Option.bind_some, Int.toNat_natCast, Int.toNat_zero, Int.le_refl, Bool.not_true, Bool.not_false, Bool.not_not, Bool.false_eq_true, if_true, if_false, decide_eq_true_eq, beq_self_eq_true, bool_ft, bool_tf, decide_true, decide_false, reduceCtorEq, cmpNil, cmpRes, boxCells, AV.known, AV.cells, Nat.zero_add, and_self, and_true, true_and, ite_self, forall_const, not_true_eq_false, not_false_eq_true, e0, len0]
      cases hemp : w.l.isEmpty with
      | false =>
        rw [hemp] at fin
        simp only [Bool.false_and] at fin
        simpa only [abin_i_add, abin_i_sub, abin_i_mul, abin_i_eql, abin_i_neq, abin_i_lss, abin_i_leq, abin_i_gtr, abin_i_geq, abin_s_eql, abin_s_neq, bnd_some, bnd_none, branch_bool, gwant_bool, gwant_nothing, aguard_some, wantE_some, pickV_bool, nilck_ptr, nilck_elem, aoff_ptr, aoff_elem, aun_not, aun_neg, lenStr_str, lenSl_nils, lenSl_sl, lenSl_osl, aextract_tup, ld1uelem, idxStr_str, amin2uint, amax2uint, rangeStr_str, sliceStr_from, sliceStr_to, List.getElem?_cons_zero, List.getElem?_cons_succ, Option.map_some, Option.bind_some, Int.toNat_natCast, Int.toNat_zero, Int.le_refl, Bool.not_true, Bool.not_false, Bool.not_not, Bool.false_eq_true, if_true, if_false, decide_eq_true_eq, beq_self_eq_true, bool_ft, bool_tf, decide_true, decide_false, reduceCtorEq, cmpNil, cmpRes, boxCells, AV.known, AV.cells, Nat.zero_add, and_self, and_true, true_and, ite_self, forall_const, not_true_eq_false, not_false_eq_true, ldN12 hobj rfl, a1, r2] using fin
      | true =>
        simp only [abin_i_add, abin_i_sub, abin_i_mul, abin_i_eql, abin_i_neq, abin_i_lss, abin_i_leq, abin_i_gtr, abin_i_geq, abin_s_eql, abin_s_neq, bnd_some, bnd_none, branch_bool, gwant_bool, gwant_nothing, aguard_some, wantE_some, pickV_bool, nilck_ptr, nilck_elem, aoff_ptr, aoff_elem, aun_not, aun_neg, lenStr_str, lenSl_nils, lenSl_sl, lenSl_osl, aextract_tup, ld1uelem, idxStr_str, amin2uint, amax2uint, rangeStr_str, sliceStr_from, sliceStr_to, List.getElem?_cons_zero, List.getElem?_cons_succ, Option.map_some, Option.bind_some, Int.toNat_natCast, Int.toNat_zero, Int.le_refl, Bool.not_true, Bool.not_false, Bool.not_not, Bool.false_eq_true, if_true, if_false, decide_eq_true_eq, beq_self_eq_true, bool_ft, bool_tf, decide_true, decide_false, reduceCtorEq, cmpNil, cmpRes, boxCells, AV.known, AV.cells, Nat.zero_add, and_self, and_true, true_and, ite_self, forall_const, not_true_eq_false, not_false_eq_true, hld9]
        refine c_message_Check s.msg hm hiv fun H1 hx1 => ?_
        have pH : p < H.next := Nat.lt_of_lt_of_le hp hx.next
        have rH : r < H.next := Nat.lt_of_lt_of_le hr hx.next
        have hobj1 := hx1.get_lt pH hobj
        have hrg1 := hx1.get_lt rH hrg
        have a2 := ast12 (cs := stepCells s iv) hrg1 hrl rfl (stepCells_one s hiv.one)
        have r3 := ldN12 (get_put_self H1 r (.cells (stepCells s iv))) rfl
        have fin2 := h (H1.put r (.cells (stepCells s iv))) iv (((hx.trans (hx1.toO _)).mono hsub).put (o := r) (.inl (by simp)) _) hiv
        unfold okW at fin2
        rw [hb, hemp] at fin2
        have ec : ((if checkM s.msg = true then (0 : Int) else 1) == 0) = checkM s.msg := by cases checkM s.msg <;> rfl
        simp only [ldN12 hobj1 rfl, abin_i_add, abin_i_sub, abin_i_mul, abin_i_eql, abin_i_neq, abin_i_lss, abin_i_leq, abin_i_gtr, abin_i_geq, abin_s_eql, abin_s_neq, bnd_some, bnd_none, branch_bool, gwant_bool, gwant_nothing, aguard_some, wantE_some, pickV_bool, nilck_ptr, nilck_elem, aoff_ptr, aoff_elem, aun_not, aun_neg, lenStr_str, lenSl_nils, lenSl_sl, lenSl_osl, aextract_tup, ld1uelem, idxStr_str, amin2uint, amax2uint, rangeStr_str, sliceStr_from, sliceStr_to, List.getElem?_cons_zero, List.getElem?_cons_succ, Option.map_some, Option.bind_some, Int.toNat_natCast, Int.toNat_zero, Int.le_refl, Bool.not_true, Bool.not_false, Bool.not_not, Bool.false_eq_true, if_true, if_false, decide_eq_true_eq, beq_self_eq_true, bool_ft, bool_tf, decide_true, decide_false, reduceCtorEq, cmpNil, cmpRes, boxCells, AV.known, AV.cells, Nat.zero_add, and_self, and_true, true_and, ite_self, forall_const, not_true_eq_false, not_false_eq_true, ec, a2, r3]
        simpa using fin2
  | f :: rest, pos, w, s, iv, H, hd, hw, hm, hn, hs, hiv, hobj, hrc, hiter, hx, h => by
    refine .fold ?_
    have hc : fs[pos]? = some f := by
      have := congrArg (fun l => l[0]?) hd
      simpa using this
    have hd' : fs.drop (pos + 1) = rest := by rw [← List.drop_drop, hd]; rfl
    have hcs : f.toNat < 128 := hfs f (List.mem_of_getElem? hc)
    obtain ⟨rc, hrg, hrl⟩ := hrc
    have oH : o < H.next := Nat.lt_of_lt_of_le ho hx.next
    have pH : p < H.next := Nat.lt_of_lt_of_le hp hx.next
    have rH : r < H.next := Nat.lt_of_lt_of_le hr hx.next
    have iH : it < H.next := Nat.lt_of_lt_of_le hit hx.next
    simp only [r_script_step_p2036, nextStr_at hiter hc hcs, abin_i_add, abin_i_sub, abin_i_mul, abin_i_eql, abin_i_neq, abin_i_lss, abin_i_leq, abin_i_gtr, abin_i_geq, abin_s_eql, abin_s_neq, bnd_some, bnd_none, branch_bool, gwant_bool, gwant_nothing, aguard_some, wantE_some, pickV_bool, nilck_ptr, nilck_elem, aoff_ptr, aoff_elem, aun_not, aun_neg, lenStr_str, lenSl_nils, lenSl_sl, lenSl_osl, aextract_tup, ld1uelem, idxStr_str, amin2uint, amax2uint, rangeStr_str, sliceStr_from, sliceStr_to, List.getElem?_cons_zero, List.getElem?_cons_succ, Option.map_some, Option.bind_some, Int.toNat_natCast, Int.toNat_zero, Int.le_refl, Bool.not_true, Bool.not_false, Bool.not_not, Bool.false_eq_true, if_true, if_false, decide_eq_true_eq, beq_self_eq_true, bool_ft, bool_tf, decide_true, decide_false, reduceCtorEq, cmpNil, cmpRes, boxCells, AV.known, AV.cells, Nat.zero_add, and_self, and_true, true_and, ite_self, forall_const, not_true_eq_false, not_false_eq_true]
    have hobj1 : (H.put it (.sIter fs (pos + 1))).get p = some (.cells (stepCells s iv)) := by rw [get_put_ne _ _ hpi]; exact hobj
    obtain ⟨hsw, hsm⟩ := fieldW_small f w s.msg hw hm
    refine c_words_field o p f w s hw (by simpa using oH) (by simpa using pH) hop (hs.putO hoi _) hiv hobj1 fun H1 iv1 hx1 hs1 hobj1 hiv1 => ?_
    refine c_step_loop o p r it fs hfs ho hp hr hit hop hor hpr hoi hpi hri rest (pos + 1) (fieldW f w s.msg).1 { s with msg := (fieldW f w s.msg).2 } iv1 H1 hd' hsw hsm (by have := hx1.next; simp at this; omega) hs1 hiv1 hobj1 ⟨rc, ?_, hrl⟩ ?_ ?_ (fun H' iv' a b => ?_)
    · exact hx1.get_lt (by simpa using rH) (by simp [Ne.symm hor, Ne.symm hpr]) (by rw [get_put_ne _ _ hri]; exact hrg)
    · exact hx1.get_lt (by simpa using iH) (by simp [Ne.symm hoi, Ne.symm hpi]) (get_put_self _ _ _)
    · exact (hx.put (o := it) (.inl (by simp)) _).trans (hx1.mono (by simp))
    · exact h H' iv' a b
theorem fieldsW_small : ∀ (fs : Bs) (w : Wds) (m : Msg), WSmall w.l → MsgSmall m → WSmall (fieldsW fs w m).1.l ∧ MsgSmall (fieldsW fs w m).2
  | [], w, m, hw, hm => ⟨hw, hm⟩
  | f :: fs, w, m, hw, hm => by
    obtain ⟨a, b⟩ := fieldW_small f w m hw hm
    exact fieldsW_small fs _ _ a b
def step0 : List AV := [.int .i64 0, .int .i64 0, .str [], .str [], .str [], .int .i64 0, .int .i64 0, .int .i64 0, .int .i64 0, .nils, .int .i64 0, .int .i64 0]
theorem step0ueq : step0 = stepCells {} .nils := rfl
theorem c_script_step (l : List Bs) (hne : l ≠ []) (hl : WSmall l) {g : Grow} {H : AH} {K : AV → AH → Prop} (h : ∀ H' iv, Ext H H' → IsItems iv (stepS l).1.msg.items → K (.tup [.agg (stepCells (stepS l).1 iv), .bool (stepS l).2]) H') :
    r_script_step [.sl g 1 (l.map .str)] H K := by
  obtain ⟨w0, ws, rfl⟩ : ∃ a b, l = a :: b := by cases l with
    | nil => exact absurd rfl hne
    | cons a b => exact ⟨a, b, rfl⟩
  have hws : WSmall ws := ⟨by have := hl.1; simp at this; omega, fun s hs => hl.2 s (List.mem_cons_of_mem _ hs)⟩
  have hw0 := hl.2 w0 (List.mem_cons_self ..)
  have est : astruct [(0, 1), (1, 1)] [.nils, .bool false] [(0, .sl g 1 (ws.map .str))] = some (.agg [.sl g 1 (ws.map .str), .bool false]) := rfl
  have ei : idxA 1 (.sl g 1 (AV.str w0 :: ws.map .str)) (.int .i64 0) = some (.elem [.str w0] 0) := by simp [idxA, AV.known, AV.cells]
  simp only [r_script_step, List.map_cons, sliceSl_from1, abin_i_add, abin_i_sub, abin_i_mul, abin_i_eql, abin_i_neq, abin_i_lss, abin_i_leq, abin_i_gtr, abin_i_geq, abin_s_eql, abin_s_neq, bnd_some, bnd_none, branch_bool, gwant_bool, gwant_nothing, aguard_some, wantE_some, pickV_bool, nilck_ptr, nilck_elem, aoff_ptr, aoff_elem, aun_not, aun_neg, lenStr_str, lenSl_nils, lenSl_sl, lenSl_osl, aextract_tup, ld1uelem, idxStr_str, amin2uint, amax2uint, rangeStr_str, sliceStr_from, sliceStr_to, List.getElem?_cons_zero, List.getElem?_cons_succ, Option.map_some, Option.bind_some, Int.toNat_natCast, Int.toNat_zero, Int.le_refl, Bool.not_true, Bool.not_false, Bool.not_not, Bool.false_eq_true, if_true, if_false, decide_eq_true_eq, beq_self_eq_true, bool_ft, bool_tf, decide_true, decide_false, reduceCtorEq, cmpNil, cmpRes, boxCells, AV.known, AV.cells, Nat.zero_add, and_self, and_true, true_and, ite_self, forall_const, not_true_eq_false, not_false_eq_true, est, ei]
  have hH2 : ((H.add (.cells step0)).add (.cells [.sl g 1 (ws.map .str), .bool false])).next = H.next + 2 := rfl
  have hxx : Ext H ((H.add (.cells step0)).add (.cells [.sl g 1 (ws.map .str), .bool false])) := ((Ext.refl H).add _).add _
  have hg0 : ((H.add (.cells step0)).add (.cells [.sl g 1 (ws.map .str), .bool false])).get H.next = some (.cells step0) := by
    rw [get_add_ne _ _ (by simp)]; exact get_add_self _ _
  have hs0 : IsWords ((H.add (.cells step0)).add (.cells [.sl g 1 (ws.map .str), .bool false])) (H.next + 1) ⟨ws, false⟩ := ⟨g, by
    have := get_add_self (H.add (.cells step0)) (.cells [.sl g 1 (ws.map .str), .bool false])
    simpa using this⟩
  have e0 : [AV.int .i64 0, .int .i64 0, .str [], .str [], .str [], .int .i64 0, .int .i64 0, .int .i64 0, .int .i64 0, .nils, .int .i64 0, .int .i64 0] = step0 := rfl
  rw [e0]
  generalize hHH : (H.add (.cells step0)).add (.cells [.sl g 1 (ws.map .str), .bool false]) = H2 at *
  have en : (H.add (.cells step0)).next = H.next + 1 := rfl
  simp only [en]
  unfold stepS at h
  simp only [List.tail_cons, List.headD_cons] at h
  by_cases c1 : w0 = wTick
  · subst c1
    simp only [if_true] at h
    simp only [show ((wTick : Bs) == [116, 105, 99, 107]) = true from rfl, abin_i_add, abin_i_sub, abin_i_mul, abin_i_eql, abin_i_neq, abin_i_lss, abin_i_leq, abin_i_gtr, abin_i_geq, abin_s_eql, abin_s_neq, bnd_some, bnd_none, branch_bool, gwant_bool, gwant_nothing, aguard_some, wantE_some, pickV_bool, nilck_ptr, nilck_elem, aoff_ptr, aoff_elem, aun_not, aun_neg, lenStr_str, lenSl_nils, lenSl_sl, lenSl_osl, aextract_tup, ld1uelem, idxStr_str, amin2uint, amax2uint, rangeStr_str, sliceStr_from, sliceStr_to, List.getElem?_cons_zero, List.getElem?_cons_succ, Option.map_some, Option.bind_some, Int.toNat_natCast, Int.toNat_zero, Int.le_refl, Bool.not_true, Bool.not_false, Bool.not_not, Bool.false_eq_true, if_true, if_false, decide_eq_true_eq, beq_self_eq_true, bool_ft, bool_tf, decide_true, decide_false, reduceCtorEq, cmpNil, cmpRes, boxCells, AV.known, AV.cells, Nat.zero_add, and_self, and_true, true_and, ite_self, forall_const, not_true_eq_false, not_false_eq_true]
    refine c_words_number (H.next + 1) ⟨ws, false⟩ hws (by omega) hs0 fun H3 hx3 hs3 => ?_
    have asx : astruct [(0, 1), (1, 9), (10, 1), (11, 1)] step0 [(0, .int .i64 2), (2, .int .i64 (numberW ⟨ws, false⟩).1)] = some (.agg (stepCells { kind := 2, n := (numberW ⟨ws, false⟩).1 } .nils)) := rfl
    have a1 : ast 12 (.ptr H3.next 0) (.agg (stepCells { kind := 2, n := (numberW ⟨ws, false⟩).1 } .nils)) (H3.add (.cells step0)) = some (H3.add (.cells (stepCells { kind := 2, n := (numberW ⟨ws, false⟩).1 } .nils))) := by
      rw [ast12 (cs := stepCells { kind := 2, n := (numberW ⟨ws, false⟩).1 } .nils) (get_add_self _ _) rfl rfl rfl, add_put]
    simp only [asx, bnd_some, a1]
    have hnn := hx3.next
    have hg3 := hx3.get_lt (by omega) (by simp) hg0
    refine c_step_fin (H.next + 1) H3.next H.next (numberW ⟨ws, false⟩).2 { kind := 2, n := (numberW ⟨ws, false⟩).1 } (iv := .nils) rfl (hs3.ext ((Ext.refl H3).add _) (by omega)) (by omega) (by omega) (get_add_self _ _) (rc := step0) (by rw [get_add_ne _ _ (by omega)]; exact hg3) rfl fun H' hx' => ?_
    refine h H' .nils ?_ (.inl ⟨rfl, rfl⟩)
    exact ExtO.ext (ExtO.ext hxx hx3 (by simp)) (((ExtO.refl [H.next] H3).add _).trans hx') (by simp)
  by_cases c2 : w0 = wFuse
  · subst c2
    simp only [if_true, show (wFuse = wTick) = False from by decide] at h
    simp only [show ((wFuse : Bs) == [116, 105, 99, 107]) = false from rfl, show ((wFuse : Bs) == [102, 117, 115, 101]) = true from rfl, abin_i_add, abin_i_sub, abin_i_mul, abin_i_eql, abin_i_neq, abin_i_lss, abin_i_leq, abin_i_gtr, abin_i_geq, abin_s_eql, abin_s_neq, bnd_some, bnd_none, branch_bool, gwant_bool, gwant_nothing, aguard_some, wantE_some, pickV_bool, nilck_ptr, nilck_elem, aoff_ptr, aoff_elem, aun_not, aun_neg, lenStr_str, lenSl_nils, lenSl_sl, lenSl_osl, aextract_tup, ld1uelem, idxStr_str, amin2uint, amax2uint, rangeStr_str, sliceStr_from, sliceStr_to, List.getElem?_cons_zero, List.getElem?_cons_succ, Option.map_some, Option.bind_some, Int.toNat_natCast, Int.toNat_zero, Int.le_refl, Bool.not_true, Bool.not_false, Bool.not_not, Bool.false_eq_true, if_true, if_false, decide_eq_true_eq, beq_self_eq_true, bool_ft, bool_tf, decide_true, decide_false, reduceCtorEq, cmpNil, cmpRes, boxCells, AV.known, AV.cells, Nat.zero_add, and_self, and_true, true_and, ite_self, forall_const, not_true_eq_false, not_false_eq_true]
    refine c_words_number (H.next + 1) ⟨ws, false⟩ hws (by omega) hs0 fun H3 hx3 hs3 => ?_
    have asx : astruct [(0, 1), (1, 9), (10, 1), (11, 1)] step0 [(0, .int .i64 3), (2, .int .i64 (numberW ⟨ws, false⟩).1)] = some (.agg (stepCells { kind := 3, n := (numberW ⟨ws, false⟩).1 } .nils)) := rfl
    have a1 : ast 12 (.ptr H3.next 0) (.agg (stepCells { kind := 3, n := (numberW ⟨ws, false⟩).1 } .nils)) (H3.add (.cells step0)) = some (H3.add (.cells (stepCells { kind := 3, n := (numberW ⟨ws, false⟩).1 } .nils))) := by
      rw [ast12 (cs := stepCells { kind := 3, n := (numberW ⟨ws, false⟩).1 } .nils) (get_add_self _ _) rfl rfl rfl, add_put]
    simp only [asx, bnd_some, a1]
    have hnn := hx3.next
    have hg3 := hx3.get_lt (by omega) (by simp) hg0
    refine c_step_fin (H.next + 1) H3.next H.next (numberW ⟨ws, false⟩).2 { kind := 3, n := (numberW ⟨ws, false⟩).1 } (iv := .nils) rfl (hs3.ext ((Ext.refl H3).add _) (by omega)) (by omega) (by omega) (get_add_self _ _) (rc := step0) (by rw [get_add_ne _ _ (by omega)]; exact hg3) rfl fun H' hx' => ?_
    refine h H' .nils ?_ (.inl ⟨rfl, rfl⟩)
    exact ExtO.ext (ExtO.ext hxx hx3 (by simp)) (((ExtO.refl [H.next] H3).add _).trans hx') (by simp)
  by_cases c3 : w0 = wCrash
  · subst c3
    simp only [if_true, show (wCrash = wTick) = False from by decide, show (wCrash = wFuse) = False from by decide] at h
    simp only [show ((wCrash : Bs) == [116, 105, 99, 107]) = false from rfl, show ((wCrash : Bs) == [102, 117, 115, 101]) = false from rfl, show ((wCrash : Bs) == [99, 114, 97, 115, 104]) = true from rfl, abin_i_add, abin_i_sub, abin_i_mul, abin_i_eql, abin_i_neq, abin_i_lss, abin_i_leq, abin_i_gtr, abin_i_geq, abin_s_eql, abin_s_neq, bnd_some, bnd_none, branch_bool, gwant_bool, gwant_nothing, aguard_some, wantE_some, pickV_bool, nilck_ptr, nilck_elem, aoff_ptr, aoff_elem, aun_not, aun_neg, lenStr_str, lenSl_nils, lenSl_sl, lenSl_osl, aextract_tup, ld1uelem, idxStr_str, amin2uint, amax2uint, rangeStr_str, sliceStr_from, sliceStr_to, List.getElem?_cons_zero, List.getElem?_cons_succ, Option.map_some, Option.bind_some, Int.toNat_natCast, Int.toNat_zero, Int.le_refl, Bool.not_true, Bool.not_false, Bool.not_not, Bool.false_eq_true, if_true, if_false, decide_eq_true_eq, beq_self_eq_true, bool_ft, bool_tf, decide_true, decide_false, reduceCtorEq, cmpNil, cmpRes, boxCells, AV.known, AV.cells, Nat.zero_add, and_self, and_true, true_and, ite_self, forall_const, not_true_eq_false, not_false_eq_true]
    refine c_words_number (H.next + 1) ⟨ws, false⟩ hws (by omega) hs0 fun H3 hx3 hs3 => ?_
    obtain ⟨hw3, _⟩ := numberW_small (w := ⟨ws, false⟩) hws
    have asx : astruct [(0, 1), (1, 9), (10, 1), (11, 1)] step0 [(0, .int .i64 4), (2, .int .i64 (numberW ⟨ws, false⟩).1), (3, .int .i64 (-1))] = some (.agg (stepCells { kind := 4, n := (numberW ⟨ws, false⟩).1, m := -1 } .nils)) := rfl
    have a1 : ast 12 (.ptr H3.next 0) (.agg (stepCells { kind := 4, n := (numberW ⟨ws, false⟩).1, m := -1 } .nils)) (H3.add (.cells step0)) = some (H3.add (.cells (stepCells { kind := 4, n := (numberW ⟨ws, false⟩).1, m := -1 } .nils))) := by
      rw [ast12 (cs := stepCells { kind := 4, n := (numberW ⟨ws, false⟩).1, m := -1 } .nils) (get_add_self _ _) rfl rfl rfl, add_put]
    simp only [asx, abin_i_add, abin_i_sub, abin_i_mul, abin_i_eql, abin_i_neq, abin_i_lss, abin_i_leq, abin_i_gtr, abin_i_geq, abin_s_eql, abin_s_neq, bnd_some, bnd_none, branch_bool, gwant_bool, gwant_nothing, aguard_some, wantE_some, pickV_bool, nilck_ptr, nilck_elem, aoff_ptr, aoff_elem, aun_not, aun_neg, lenStr_str, lenSl_nils, lenSl_sl, lenSl_osl, aextract_tup, ld1uelem, idxStr_str, amin2uint, amax2uint, rangeStr_str, sliceStr_from, sliceStr_to, List.getElem?_cons_zero, List.getElem?_cons_succ, Option.map_some, Option.bind_some, Int.toNat_natCast, Int.toNat_zero, Int.le_refl, Bool.not_true, Bool.not_false, Bool.not_not, Bool.false_eq_true, if_true, if_false, decide_eq_true_eq, beq_self_eq_true, bool_ft, bool_tf, decide_true, decide_false, reduceCtorEq, cmpNil, cmpRes, boxCells, AV.known, AV.cells, Nat.zero_add, and_self, and_true, true_and, ite_self, forall_const, not_true_eq_false, not_false_eq_true, a1]
    have hnn := hx3.next
    have hg3 := hx3.get_lt (by omega) (by simp) hg0
    have hs3' : IsWords (H3.add (.cells (stepCells { kind := 4, n := (numberW ⟨ws, false⟩).1, m := -1 } .nils))) (H.next + 1) (numberW ⟨ws, false⟩).2 := hs3.ext ((Ext.refl H3).add _) (by omega)
    obtain ⟨g', f0, f1⟩ := words_at hs3'
    have hp3 := get_add_self H3 (.cells (stepCells { kind := 4, n := (numberW ⟨ws, false⟩).1, m := -1 } .nils))
    have epos : decide (((((numberW ⟨ws, false⟩).2.l.map AV.str).length : Nat) : Int) > 0) = decide (0 < (numberW ⟨ws, false⟩).2.l.length) := by rw [decide_eq_decide]; simp
    simp only [f0, abin_i_add, abin_i_sub, abin_i_mul, abin_i_eql, abin_i_neq, abin_i_lss, abin_i_leq, abin_i_gtr, abin_i_geq, abin_s_eql, abin_s_neq, bnd_some, bnd_none, branch_bool, gwant_bool, gwant_nothing, aguard_some, wantE_some, pickV_bool, nilck_ptr, nilck_elem, aoff_ptr, aoff_elem, aun_not, aun_neg, lenStr_str, lenSl_nils, lenSl_sl, lenSl_osl, aextract_tup, ld1uelem, idxStr_str, amin2uint, amax2uint, rangeStr_str, sliceStr_from, sliceStr_to, List.getElem?_cons_zero, List.getElem?_cons_succ, Option.map_some, Option.bind_some, Int.toNat_natCast, Int.toNat_zero, Int.le_refl, Bool.not_true, Bool.not_false, Bool.not_not, Bool.false_eq_true, if_true, if_false, decide_eq_true_eq, beq_self_eq_true, bool_ft, bool_tf, decide_true, decide_false, reduceCtorEq, cmpNil, cmpRes, boxCells, AV.known, AV.cells, Nat.zero_add, and_self, and_true, true_and, ite_self, forall_const, not_true_eq_false, not_false_eq_true, epos]
    by_cases hpos : 0 < (numberW ⟨ws, false⟩).2.l.length
    · simp only [hpos, if_true] at h
      simp only [hpos, abin_i_add, abin_i_sub, abin_i_mul, abin_i_eql, abin_i_neq, abin_i_lss, abin_i_leq, abin_i_gtr, abin_i_geq, abin_s_eql, abin_s_neq, bnd_some, bnd_none, branch_bool, gwant_bool, gwant_nothing, aguard_some, wantE_some, pickV_bool, nilck_ptr, nilck_elem, aoff_ptr, aoff_elem, aun_not, aun_neg, lenStr_str, lenSl_nils, lenSl_sl, lenSl_osl, aextract_tup, ld1uelem, idxStr_str, amin2uint, amax2uint, rangeStr_str, sliceStr_from, sliceStr_to, List.getElem?_cons_zero, List.getElem?_cons_succ, Option.map_some, Option.bind_some, Int.toNat_natCast, Int.toNat_zero, Int.le_refl, Bool.not_true, Bool.not_false, Bool.not_not, Bool.false_eq_true, if_true, if_false, decide_eq_true_eq, beq_self_eq_true, bool_ft, bool_tf, decide_true, decide_false, reduceCtorEq, cmpNil, cmpRes, boxCells, AV.known, AV.cells, Nat.zero_add, and_self, and_true, true_and, ite_self, forall_const, not_true_eq_false, not_false_eq_true]
      refine c_words_number (H.next + 1) _ hw3 (by simp; omega) hs3' fun H4 hx4 hs4 => ?_
      have hp4 := hx4.get_lt (by simp) (by simp; omega) hp3
      have st := ast1uptr hp4 (i := 11) (v := .int .i64 (numberW (numberW ⟨ws, false⟩).2).1) rfl (by show 11 < 12; omega)
      have hn4 := hx4.next
      simp only [next_add] at hn4
      simp only [st, bnd_some]
      refine c_step_fin (H.next + 1) H3.next H.next (numberW (numberW ⟨ws, false⟩).2).2 { kind := 4, n := (numberW ⟨ws, false⟩).1, m := (numberW (numberW ⟨ws, false⟩).2).1 } (iv := .nils) rfl (hs4.putO (by omega) _) (by omega) (by omega) (get_put_self _ _ _) (rc := step0) ?_ rfl fun H' hx' => ?_
      · rw [get_put_ne _ _ (by omega)]
        exact hx4.get_lt (by simp; omega) (by simp) (by rw [get_add_ne _ _ (by omega)]; exact hg3)
      · refine h H' .nils ?_ (.inl ⟨rfl, rfl⟩)
        have x1 : Ext H (H3.add (.cells (stepCells { kind := 4, n := (numberW ⟨ws, false⟩).1, m := -1 } .nils))) := (ExtO.ext hxx hx3 (by simp)).add _
        have x2 : Ext H H4 := ExtO.ext x1 hx4 (by simp)
        exact ExtO.ext (x2.put (o := H3.next) (by omega) _) hx' (by simp)
    · simp only [hpos, if_false] at h
      simp only [hpos, abin_i_add, abin_i_sub, abin_i_mul, abin_i_eql, abin_i_neq, abin_i_lss, abin_i_leq, abin_i_gtr, abin_i_geq, abin_s_eql, abin_s_neq, bnd_some, bnd_none, branch_bool, gwant_bool, gwant_nothing, aguard_some, wantE_some, pickV_bool, nilck_ptr, nilck_elem, aoff_ptr, aoff_elem, aun_not, aun_neg, lenStr_str, lenSl_nils, lenSl_sl, lenSl_osl, aextract_tup, ld1uelem, idxStr_str, amin2uint, amax2uint, rangeStr_str, sliceStr_from, sliceStr_to, List.getElem?_cons_zero, List.getElem?_cons_succ, Option.map_some, Option.bind_some, Int.toNat_natCast, Int.toNat_zero, Int.le_refl, Bool.not_true, Bool.not_false, Bool.not_not, Bool.false_eq_true, if_true, if_false, decide_eq_true_eq, beq_self_eq_true, bool_ft, bool_tf, decide_true, decide_false, reduceCtorEq, cmpNil, cmpRes, boxCells, AV.known, AV.cells, Nat.zero_add, and_self, and_true, true_and, ite_self, forall_const, not_true_eq_false, not_false_eq_true]
      refine c_step_fin (H.next + 1) H3.next H.next (numberW ⟨ws, false⟩).2 { kind := 4, n := (numberW ⟨ws, false⟩).1, m := -1 } (iv := .nils) rfl hs3' (by omega) (by omega) hp3 (rc := step0) (by rw [get_add_ne _ _ (by omega)]; exact hg3) rfl fun H' hx' => ?_
      refine h H' .nils ?_ (.inl ⟨rfl, rfl⟩)
      exact ExtO.ext (ExtO.ext hxx hx3 (by simp)) (((ExtO.refl [H.next] H3).add _).trans hx') (by simp)
  have b1 : (w0 == [116, 105, 99, 107]) = false := by simpa [wTick] using c1
  have b2 : (w0 == [102, 117, 115, 101]) = false := by simpa [wFuse] using c2
  have b3 : (w0 == [99, 114, 97, 115, 104]) = false := by simpa [wCrash] using c3
  simp only [c1, c2, c3, if_false] at h
  simp only [abin_i_add, abin_i_sub, abin_i_mul, abin_i_eql, abin_i_neq, abin_i_lss, abin_i_leq, abin_i_gtr, abin_i_geq, abin_s_eql, abin_s_neq, bnd_some, bnd_none, branch_bool, gwant_bool, gwant_nothing, aguard_some, wantE_some, pickV_bool, nilck_ptr, nilck_elem, aoff_ptr, aoff_elem, aun_not, aun_neg, lenStr_str, lenSl_nils, lenSl_sl, lenSl_osl, aextract_tup, ld1uelem, idxStr_str, amin2uint, amax2uint, rangeStr_str, sliceStr_from, sliceStr_to, List.getElem?_cons_zero, List.getElem?_cons_succ, Option.map_some, Option.bind_some, Int.toNat_natCast, Int.toNat_zero, Int.le_refl, Bool.not_true, Bool.not_false, Bool.not_not, Bool.false_eq_true, if_true, if_false, decide_eq_true_eq, beq_self_eq_true, bool_ft, bool_tf, decide_true, decide_false, reduceCtorEq, cmpNil, cmpRes, boxCells, AV.known, AV.cells, Nat.zero_add, and_self, and_true, true_and, ite_self, forall_const, not_true_eq_false, not_false_eq_true, b1, b2, b3]
  refine c_script_kinds ?_
  simp only [abin_i_add, abin_i_sub, abin_i_mul, abin_i_eql, abin_i_neq, abin_i_lss, abin_i_leq, abin_i_gtr, abin_i_geq, abin_s_eql, abin_s_neq, bnd_some, bnd_none, branch_bool, gwant_bool, gwant_nothing, aguard_some, wantE_some, pickV_bool, nilck_ptr, nilck_elem, aoff_ptr, aoff_elem, aun_not, aun_neg, lenStr_str, lenSl_nils, lenSl_sl, lenSl_osl, aextract_tup, ld1uelem, idxStr_str, amin2uint, amax2uint, rangeStr_str, sliceStr_from, sliceStr_to, List.getElem?_cons_zero, List.getElem?_cons_succ, Option.map_some, Option.bind_some, Int.toNat_natCast, Int.toNat_zero, Int.le_refl, Bool.not_true, Bool.not_false, Bool.not_not, Bool.false_eq_true, if_true, if_false, decide_eq_true_eq, beq_self_eq_true, bool_ft, bool_tf, decide_true, decide_false, reduceCtorEq, cmpNil, cmpRes, boxCells, AV.known, AV.cells, Nat.zero_add, and_self, and_true, true_and, ite_self, forall_const, not_true_eq_false, not_false_eq_true, look_kinds w0 (get_add_self _ _)]
  cases hk : kindOf w0 with
  | none =>
    rw [hk] at h
    have hr : (H2.add (.map kindsEs 9)).get H.next = some (.cells step0) := by rw [get_add_ne _ _ (by omega)]; exact hg0
    have asx : astruct [(0, 1), (1, 9), (10, 1), (11, 1)] step0 [] = some (.agg (stepCells {} .nils)) := rfl
    have a1 := ast12 (cs := stepCells {} .nils) hr rfl rfl rfl
    have r2 := ldN12 (get_put_self (H2.add (.map kindsEs 9)) H.next (.cells (stepCells {} .nils))) rfl
    have fin := h ((H2.add (.map kindsEs 9)).put H.next (.cells (stepCells {} .nils))) .nils ((hxx.add _).put (Nat.le_refl _) _) (.inl ⟨rfl, rfl⟩)
    simpa only [Option.isSome_none, abin_i_add, abin_i_sub, abin_i_mul, abin_i_eql, abin_i_neq, abin_i_lss, abin_i_leq, abin_i_gtr, abin_i_geq, abin_s_eql, abin_s_neq, bnd_some, bnd_none, branch_bool, gwant_bool, gwant_nothing, aguard_some, wantE_some, pickV_bool, nilck_ptr, nilck_elem, aoff_ptr, aoff_elem, aun_not, aun_neg, lenStr_str, lenSl_nils, lenSl_sl, lenSl_osl, aextract_tup, ld1uelem, idxStr_str, amin2uint, amax2uint, rangeStr_str, sliceStr_from, sliceStr_to, List.getElem?_cons_zero, List.getElem?_cons_succ, Option.map_some, Option.bind_some, Int.toNat_natCast, Int.toNat_zero, Int.le_refl, Bool.not_true, Bool.not_false, Bool.not_not, Bool.false_eq_true, if_true, if_false, decide_eq_true_eq, beq_self_eq_true, bool_ft, bool_tf, decide_true, decide_false, reduceCtorEq, cmpNil, cmpRes, boxCells, AV.known, AV.cells, Nat.zero_add, and_self, and_true, true_and, ite_self, forall_const, not_true_eq_false, not_false_eq_true, asx, a1, r2] using fin
  | some k =>
    rw [hk] at h
    simp only at h
    have am : astruct [(0, 1), (1, 1), (2, 1), (3, 1), (4, 1), (5, 1), (6, 1), (7, 1), (8, 1)] [.int .i64 0, .str [], .str [], .str [], .int .i64 0, .int .i64 0, .int .i64 0, .int .i64 0, .nils] [(0, .int .i64 k)] = some (.agg (msgCells { kind := k } .nils)) := rfl
    have asx : astruct [(0, 1), (1, 9), (10, 1), (11, 1)] step0 [(0, .int .i64 1), (1, .agg (msgCells { kind := k } .nils))] = some (.agg (stepCells { kind := 1, msg := { kind := k } } .nils)) := rfl
    simp only [Option.isSome_some, Option.getD_some, abin_i_add, abin_i_sub, abin_i_mul, abin_i_eql, abin_i_neq, abin_i_lss, abin_i_leq, abin_i_gtr, abin_i_geq, abin_s_eql, abin_s_neq, bnd_some, bnd_none, branch_bool, gwant_bool, gwant_nothing, aguard_some, wantE_some, pickV_bool, nilck_ptr, nilck_elem, aoff_ptr, aoff_elem, aun_not, aun_neg, lenStr_str, lenSl_nils, lenSl_sl, lenSl_osl, aextract_tup, ld1uelem, idxStr_str, amin2uint, amax2uint, rangeStr_str, sliceStr_from, sliceStr_to, List.getElem?_cons_zero, List.getElem?_cons_succ, Option.map_some, Option.bind_some, Int.toNat_natCast, Int.toNat_zero, Int.le_refl, Bool.not_true, Bool.not_false, Bool.not_not, Bool.false_eq_true, if_true, if_false, decide_eq_true_eq, beq_self_eq_true, bool_ft, bool_tf, decide_true, decide_false, reduceCtorEq, cmpNil, cmpRes, boxCells, AV.known, AV.cells, Nat.zero_add, and_self, and_true, true_and, ite_self, forall_const, not_true_eq_false, not_false_eq_true, am, asx]
    have hn3 : (H2.add (.map kindsEs 9)).next = H.next + 3 := by rw [next_add, hH2]
    have a1 : ast 12 (.ptr (H2.add (.map kindsEs 9)).next 0) (.agg (stepCells { kind := 1, msg := { kind := k } } .nils)) ((H2.add (.map kindsEs 9)).add (.cells step0)) = some ((H2.add (.map kindsEs 9)).add (.cells (stepCells { kind := 1, msg := { kind := k } } .nils))) := by
      rw [ast12 (cs := stepCells { kind := 1, msg := { kind := k } } .nils) (get_add_self _ _) rfl rfl rfl, add_put]
    rw [hn3] at a1
    simp only [hn3, a1, bnd_some]
    refine c_message_Fields k ?_
    simp only [abin_i_add, abin_i_sub, abin_i_mul, abin_i_eql, abin_i_neq, abin_i_lss, abin_i_leq, abin_i_gtr, abin_i_geq, abin_s_eql, abin_s_neq, bnd_some, bnd_none, branch_bool, gwant_bool, gwant_nothing, aguard_some, wantE_some, pickV_bool, nilck_ptr, nilck_elem, aoff_ptr, aoff_elem, aun_not, aun_neg, lenStr_str, lenSl_nils, lenSl_sl, lenSl_osl, aextract_tup, ld1uelem, idxStr_str, amin2uint, amax2uint, rangeStr_str, sliceStr_from, sliceStr_to, List.getElem?_cons_zero, List.getElem?_cons_succ, Option.map_some, Option.bind_some, Int.toNat_natCast, Int.toNat_zero, Int.le_refl, Bool.not_true, Bool.not_false, Bool.not_not, Bool.false_eq_true, if_true, if_false, decide_eq_true_eq, beq_self_eq_true, bool_ft, bool_tf, decide_true, decide_false, reduceCtorEq, cmpNil, cmpRes, boxCells, AV.known, AV.cells, Nat.zero_add, and_self, and_true, true_and, ite_self, forall_const, not_true_eq_false, not_false_eq_true]
    -- the loop over the fields
    generalize hH4 : (H2.add (.map kindsEs 9)).add (.cells (stepCells { kind := 1, msg := { kind := k } } .nils)) = H4
    have hn4 : H4.next = H.next + 4 := by rw [← hH4, next_add, hn3]
    have hx4 : Ext H2 H4 := by rw [← hH4]; exact ((Ext.refl H2).add _).add _
    have hp4 : H4.get (H.next + 3) = some (.cells (stepCells { kind := 1, msg := { kind := k } } .nils)) := by
      have := get_add_self (H2.add (.map kindsEs 9)) (.cells (stepCells { kind := 1, msg := { kind := k } } .nils))
      rw [hn3, hH4] at this; exact this
    have x0 : Ext H4 (H4.add (.sIter (fieldsOf k) 0)) := (Ext.refl H4).add _
    refine c_step_loop (H.next + 1) (H.next + 3) H.next H4.next (fieldsOf k) (fieldsOf_small k) (H0 := H4.add (.sIter (fieldsOf k) 0)) (by simp; omega) (by simp; omega) (by simp; omega) (by simp) (by omega) (by omega) (by omega) (by omega) (by omega) (by omega)
      (fieldsOf k) 0 ⟨ws, false⟩ { kind := 1, msg := { kind := k } } .nils _ rfl hws ⟨by simp, by simp, by simp, by simp, by simp⟩ (Nat.le_refl _) (hs0.ext (hx4.trans x0) (by omega)) (.inl ⟨rfl, rfl⟩) (x0.get_lt (by omega) hp4)
      ⟨step0, (hx4.trans x0).get_lt (by omega) hg0, rfl⟩ (get_add_self _ _) (ExtO.refl _ _) fun H' iv' hx' hiv' => ?_
    exact h H' iv' (ExtO.ext ((hxx.trans hx4).trans x0) hx' (by simp; omega)) hiv'
end Go.Va
