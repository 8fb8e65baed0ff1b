/-
  Contracts: may a message be?
-/
import Derived.Test.YtfldcobcnlgapaaDoorCtChk
set_option linter.unusedVariables false
set_option linter.unusedSimpArgs false
set_option maxRecDepth 100000
namespace Go.Va
theorem any_toNat (fs : Bs) (f : UInt8) : (fs.any fun c => (c.toNat : Int) == (f.toNat : Int)) = fs.contains f := by
  rw [Bool.eq_iff_iff, List.any_eq_true, List.contains_iff_mem]
  constructor
  · rintro ⟨c, hc, h⟩
    have : c = f := UInt8.toNat_inj.1 (by have : (c.toNat : Int) = f.toNat := by simpa using h
                                          omega)
    exact this ▸ hc
  · intro h; exact ⟨f, h, by simp⟩
theorem c_holds (fs : Bs) (hs : ∀ c ∈ fs, c.toNat < 128) (f : UInt8) {H : AH} {K : AV → AH → Prop} (h : ∀ H', Ext H H' → K (.bool (fs.contains f)) H') : r_message_holds [.str fs, .int .i32 f.toNat] H K :=
  c_message_holds fs hs f.toNat fun H' hx => by rw [any_toNat]; exact h H' hx
theorem index_contains (fs : Bs) (c : UInt8) : decide (0 ≤ Lib.indexByte fs c) = fs.contains c := by
  rw [Bool.eq_iff_iff, List.contains_iff_mem, decide_eq_true_eq]
  rcases index_cases fs c with ⟨h1, h2⟩ | ⟨a, b, rfl, h1, h2⟩
  · rw [h2]; simp [h1]
  · rw [h2]; simp
def MsgSmall (m : Msg) : Prop := m.f.length ≤ 1000000000 ∧ m.e.length ≤ 1000000000 ∧ m.t.length ≤ 1000000000 ∧ ItemsSmall m.items
theorem c_message_Check (m : Msg) (hm : MsgSmall m) {iv : AV} (hv : IsItems iv m.items) {H : AH} {K : AV → AH → Prop} (h : ∀ H', Ext H H' → K (.int .i64 (if checkM m then 0 else 1)) H') : r_message_Check [.agg (msgCells m iv)] H K := by
  obtain ⟨hf, he, ht, hit⟩ := hm
  have hiv1 : iv.one = true := by rcases hv with ⟨rfl, _⟩ | ⟨g, rfl⟩ <;> rfl
  have hlen : lenSl iv = some (.int .i64 m.items.length) := by
    rcases hv with ⟨rfl, h0⟩ | ⟨g, rfl⟩
    · rw [h0]; rfl
    · simp
  simp only [r_message_Check, abin_i_add, abin_i_sub, abin_i_mul, abin_i_eql, abin_i_neq, abin_i_lss, abin_i_leq, abin_i_gtr, abin_i_geq, abin_s_eql, abin_s_neq, bnd_some, bnd_none, branch_bool, gwant_bool, gwant_nothing, aguard_some, wantE_some, pickV_bool, nilck_ptr, nilck_elem, aoff_ptr, aoff_elem, aun_not, aun_neg, lenStr_str, lenSl_nils, lenSl_sl, lenSl_osl, aextract_tup, ld1uelem, idxStr_str, amin2uint, amax2uint, rangeStr_str, sliceStr_from, sliceStr_to, List.getElem?_cons_zero, List.getElem?_cons_succ, Option.map_some, Option.bind_some, Int.toNat_natCast, Int.toNat_zero, Int.le_refl, Bool.not_true, Bool.not_false, Bool.not_not, Bool.false_eq_true, if_true, if_false, decide_eq_true_eq, beq_self_eq_true, bool_ft, bool_tf, decide_true, decide_false, reduceCtorEq, cmpNil, cmpRes, boxCells, AV.known, AV.cells, Nat.zero_add, and_self, and_true, true_and, ite_self, forall_const, not_true_eq_false, not_false_eq_true]
  have hg0 := get_add_self H (.cells (msgCells m iv))
  have e0 : (msgCells m iv)[0]? = some (.int .i64 m.kind) := rfl
  simp only [ld1uptr hg0, e0, abin_i_add, abin_i_sub, abin_i_mul, abin_i_eql, abin_i_neq, abin_i_lss, abin_i_leq, abin_i_gtr, abin_i_geq, abin_s_eql, abin_s_neq, bnd_some, bnd_none, branch_bool, gwant_bool, gwant_nothing, aguard_some, wantE_some, pickV_bool, nilck_ptr, nilck_elem, aoff_ptr, aoff_elem, aun_not, aun_neg, lenStr_str, lenSl_nils, lenSl_sl, lenSl_osl, aextract_tup, ld1uelem, idxStr_str, amin2uint, amax2uint, rangeStr_str, sliceStr_from, sliceStr_to, List.getElem?_cons_zero, List.getElem?_cons_succ, Option.map_some, Option.bind_some, Int.toNat_natCast, Int.toNat_zero, Int.le_refl, Bool.not_true, Bool.not_false, Bool.not_not, Bool.false_eq_true, if_true, if_false, decide_eq_true_eq, beq_self_eq_true, bool_ft, bool_tf, decide_true, decide_false, reduceCtorEq, cmpNil, cmpRes, boxCells, AV.known, AV.cells, Nat.zero_add, and_self, and_true, true_and, ite_self, forall_const, not_true_eq_false, not_false_eq_true]
  refine c_message_Fields m.kind ?_
  have hx0 : Ext H (H.add (.cells (msgCells m iv))) := (Ext.refl H).add _
  have hcell : ∀ H', Ext (H.add (.cells (msgCells m iv))) H' → H'.get H.next = some (.cells (msgCells m iv)) := fun H' hx => hx.get_lt (by simp) hg0
  simp only [abin_i_add, abin_i_sub, abin_i_mul, abin_i_eql, abin_i_neq, abin_i_lss, abin_i_leq, abin_i_gtr, abin_i_geq, abin_s_eql, abin_s_neq, bnd_some, bnd_none, branch_bool, gwant_bool, gwant_nothing, aguard_some, wantE_some, pickV_bool, nilck_ptr, nilck_elem, aoff_ptr, aoff_elem, aun_not, aun_neg, lenStr_str, lenSl_nils, lenSl_sl, lenSl_osl, aextract_tup, ld1uelem, idxStr_str, amin2uint, amax2uint, rangeStr_str, sliceStr_from, sliceStr_to, List.getElem?_cons_zero, List.getElem?_cons_succ, Option.map_some, Option.bind_some, Int.toNat_natCast, Int.toNat_zero, Int.le_refl, Bool.not_true, Bool.not_false, Bool.not_not, Bool.false_eq_true, if_true, if_false, decide_eq_true_eq, beq_self_eq_true, bool_ft, bool_tf, decide_true, decide_false, reduceCtorEq, cmpNil, cmpRes, boxCells, AV.known, AV.cells, Nat.zero_add, and_self, and_true, true_and, ite_self, forall_const, not_true_eq_false, not_false_eq_true]
  by_cases h63 : fieldsOf m.kind = [63]
  · have := h _ hx0
    have hc : checkM m = false := by simp [checkM, h63]
    rw [hc] at this
    simpa [h63] using this
  have h63' : (fieldsOf m.kind == [63]) = false := by simpa using h63
  simp only [h63', abin_i_add, abin_i_sub, abin_i_mul, abin_i_eql, abin_i_neq, abin_i_lss, abin_i_leq, abin_i_gtr, abin_i_geq, abin_s_eql, abin_s_neq, bnd_some, bnd_none, branch_bool, gwant_bool, gwant_nothing, aguard_some, wantE_some, pickV_bool, nilck_ptr, nilck_elem, aoff_ptr, aoff_elem, aun_not, aun_neg, lenStr_str, lenSl_nils, lenSl_sl, lenSl_osl, aextract_tup, ld1uelem, idxStr_str, amin2uint, amax2uint, rangeStr_str, sliceStr_from, sliceStr_to, List.getElem?_cons_zero, List.getElem?_cons_succ, Option.map_some, Option.bind_some, Int.toNat_natCast, Int.toNat_zero, Int.le_refl, Bool.not_true, Bool.not_false, Bool.not_not, Bool.false_eq_true, if_true, if_false, decide_eq_true_eq, beq_self_eq_true, bool_ft, bool_tf, decide_true, decide_false, reduceCtorEq, cmpNil, cmpRes, boxCells, AV.known, AV.cells, Nat.zero_add, and_self, and_true, true_and, ite_self, forall_const, not_true_eq_false, not_false_eq_true]
  have hsm := fieldsOf_small m.kind
  generalize hfs : fieldsOf m.kind = fs at hsm h63 h63'
  -- what it all comes to
  have hcheck : checkM m = ((textOk fs 70 m.f && textOk fs 69 m.e && textOk fs 84 m.t) && (numOk fs 78 m.n && numOk fs 83 m.state && numOk fs 85 m.num && numOk fs 80 m.epoch) && (if fs.contains 73 then listOk m.kind m.items else m.items.isEmpty)) := by
    have : (fs != [63]) = true := by simpa using h63
    simp only [checkM, hfs, this, Bool.true_and]
  have bad : ∀ H', Ext (H.add (.cells (msgCells m iv))) H' → checkM m = false → K (.int .i64 1) H' := fun H' hx hb => by
    have := h H' (hx0.trans hx)
    rw [hb] at this; exact this
  refine c_message_texts H.next fun es hes => ?_
  have hme : ((H.add (.cells (msgCells m iv))).add (.map es 3)).get (H.add (.cells (msgCells m iv))).next = some (.map es 3) := get_add_self _ _
  have hrm : rangeMap (.map (H.add (.cells (msgCells m iv))).next) ((H.add (.cells (msgCells m iv))).add (.map es 3)) =
      some (.iter ((H.add (.cells (msgCells m iv))).next + 1), ((H.add (.cells (msgCells m iv))).add (.map es 3)).add (.mIter (some (H.add (.cells (msgCells m iv))).next) 3 [] 3)) := by
    simp only [rangeMap, hme]; rfl
  simp only [hrm, bnd_some]
  generalize hH1 : H.add (.cells (msgCells m iv)) = H1 at *
  have hn1 : H1.next = H.next + 1 := by rw [← hH1]; rfl
  have hg1 : ((H1.add (.map es 3)).add (.mIter (some H1.next) 3 [] 3)).get H1.next = some (.map es 3) := by
    rw [get_add_ne _ _ (by simp)]; exact get_add_self _ _
  have hg2 : ((H1.add (.map es 3)).add (.mIter (some H1.next) 3 [] 3)).get (H1.next + 1) = some (.mIter (some H1.next) 3 [] 3) := by
    have := get_add_self (H1.add (.map es 3)) (.mIter (some H1.next) 3 [] 3)
    simpa using this
  have hxl : Ext H1 ((H1.add (.map es 3)).add (.mIter (some H1.next) 3 [] 3)) := ((Ext.refl H1).add _).add _
  -- the texts
  let G1 : AEnt → Prop := fun e => (e.key = .int .i32 70 → textOk fs 70 m.f = true) ∧ (e.key = .int .i32 69 → textOk fs 69 m.e = true) ∧ (e.key = .int .i32 84 → textOk fs 84 m.t = true)
  refine mapLoop (H0 := H1) (i := H1.next + 1) (r := H1.next) (c := 3) (es := es) G1 ?_ hes.nodup _ [] _ rfl (by simp) (by simp; omega) hxl hg2 hg1 (fun e _ hm => by simp at hm)
  intro seen H2 Y hin2 hrn2 hx2 hi2 hr2 hgood hY
  simp only [r_message_Check_p244]
  refine nextMap_at hi2 hr2 hes.born (fun hall => ?_) fun e hee hns => ?_
  · -- all texts were looked at: the numbers
    have htexts : (textOk fs 70 m.f && textOk fs 69 m.e && textOk fs 84 m.t) = true := by
      obtain ⟨e1, a1, b1⟩ := hes.sup (.int .i32 70, .ptr H.next 1) (by simp)
      obtain ⟨e2, a2, b2⟩ := hes.sup (.int .i32 69, .ptr H.next 2) (by simp)
      obtain ⟨e3, a3, b3⟩ := hes.sup (.int .i32 84, .ptr H.next 3) (by simp)
      have c1 := (hgood e1 a1 (hall e1 a1)).1 (by simp at b1; exact b1.1)
      have c2 := (hgood e2 a2 (hall e2 a2)).2.1 (by simp at b2; exact b2.1)
      have c3 := (hgood e3 a3 (hall e3 a3)).2.2 (by simp at b3; exact b3.1)
      simp [c1, c2, c3]
    simp only [abin_i_add, abin_i_sub, abin_i_mul, abin_i_eql, abin_i_neq, abin_i_lss, abin_i_leq, abin_i_gtr, abin_i_geq, abin_s_eql, abin_s_neq, bnd_some, bnd_none, branch_bool, gwant_bool, gwant_nothing, aguard_some, wantE_some, pickV_bool, nilck_ptr, nilck_elem, aoff_ptr, aoff_elem, aun_not, aun_neg, lenStr_str, lenSl_nils, lenSl_sl, lenSl_osl, aextract_tup, ld1uelem, idxStr_str, amin2uint, amax2uint, rangeStr_str, sliceStr_from, sliceStr_to, List.getElem?_cons_zero, List.getElem?_cons_succ, Option.map_some, Option.bind_some, Int.toNat_natCast, Int.toNat_zero, Int.le_refl, Bool.not_true, Bool.not_false, Bool.not_not, Bool.false_eq_true, if_true, if_false, decide_eq_true_eq, beq_self_eq_true, bool_ft, bool_tf, decide_true, decide_false, reduceCtorEq, cmpNil, cmpRes, boxCells, AV.known, AV.cells, Nat.zero_add, and_self, and_true, true_and, ite_self, forall_const, not_true_eq_false, not_false_eq_true]
    refine c_message_numbers H.next fun fs' hfs' => ?_
    have hme2 : (H2.add (.map fs' 4)).get H2.next = some (.map fs' 4) := get_add_self _ _
    have hrm2 : rangeMap (.map H2.next) (H2.add (.map fs' 4)) = some (.iter (H2.next + 1), (H2.add (.map fs' 4)).add (.mIter (some H2.next) 4 [] 4)) := by
      simp only [rangeMap, hme2]; rfl
    simp only [hrm2, bnd_some]
    have hg3 : ((H2.add (.map fs' 4)).add (.mIter (some H2.next) 4 [] 4)).get H2.next = some (.map fs' 4) := by
      rw [get_add_ne _ _ (by simp)]; exact get_add_self _ _
    have hg4 : ((H2.add (.map fs' 4)).add (.mIter (some H2.next) 4 [] 4)).get (H2.next + 1) = some (.mIter (some H2.next) 4 [] 4) := by
      have := get_add_self (H2.add (.map fs' 4)) (.mIter (some H2.next) 4 [] 4)
      simpa using this
    have hxl2 : Ext H2 ((H2.add (.map fs' 4)).add (.mIter (some H2.next) 4 [] 4)) := ((Ext.refl H2).add _).add _
    let G2 : AEnt → Prop := fun e => (e.key = .int .i32 78 → numOk fs 78 m.n = true) ∧ (e.key = .int .i32 83 → numOk fs 83 m.state = true) ∧ (e.key = .int .i32 85 → numOk fs 85 m.num = true) ∧ (e.key = .int .i32 80 → numOk fs 80 m.epoch = true)
    refine mapLoop (H0 := H2) (i := H2.next + 1) (r := H2.next) (c := 4) (es := fs') G2 ?_ hfs'.nodup _ [] _ rfl (by simp) (by simp; omega) hxl2 hg4 hg3 (fun e _ hm => by simp at hm)
    intro seen3 H3 Y3 hin3 hrn3 hx3 hi3 hr3 hgood3 hY3
    simp only [r_message_Check_p500]
    refine nextMap_at hi3 hr3 hfs'.born (fun hall3 => ?_) fun e hee hns => ?_
    · -- all numbers, too: the items
      have hnums : (numOk fs 78 m.n && numOk fs 83 m.state && numOk fs 85 m.num && numOk fs 80 m.epoch) = true := by
        obtain ⟨e1, a1, b1⟩ := hfs'.sup (.int .i32 78, .ptr H.next 4) (by simp)
        obtain ⟨e2, a2, b2⟩ := hfs'.sup (.int .i32 83, .ptr H.next 5) (by simp)
        obtain ⟨e3, a3, b3⟩ := hfs'.sup (.int .i32 85, .ptr H.next 6) (by simp)
        obtain ⟨e4, a4, b4⟩ := hfs'.sup (.int .i32 80, .ptr H.next 7) (by simp)
        have c1 := (hgood3 e1 a1 (hall3 e1 a1)).1 (by simp at b1; exact b1.1)
        have c2 := (hgood3 e2 a2 (hall3 e2 a2)).2.1 (by simp at b2; exact b2.1)
        have c3 := (hgood3 e3 a3 (hall3 e3 a3)).2.2.1 (by simp at b3; exact b3.1)
        have c4 := (hgood3 e4 a4 (hall3 e4 a4)).2.2.2 (by simp at b4; exact b4.1)
        simp [c1, c2, c3, c4]
      have hxx : Ext H1 H3 := hx2.trans hx3
      rw [htexts, hnums, Bool.true_and, Bool.true_and] at hcheck
      have hc8 : (msgCells m iv)[8]? = some iv := rfl
      have fin : ∀ H', Ext H1 H' → K (.int .i64 (if checkM m then 0 else 1)) H' := fun H' hx => h H' (hx0.trans hx)
      rw [hcheck] at fin
      simp only [abin_i_add, abin_i_sub, abin_i_mul, abin_i_eql, abin_i_neq, abin_i_lss, abin_i_leq, abin_i_gtr, abin_i_geq, abin_s_eql, abin_s_neq, bnd_some, bnd_none, branch_bool, gwant_bool, gwant_nothing, aguard_some, wantE_some, pickV_bool, nilck_ptr, nilck_elem, aoff_ptr, aoff_elem, aun_not, aun_neg, lenStr_str, lenSl_nils, lenSl_sl, lenSl_osl, aextract_tup, ld1uelem, idxStr_str, amin2uint, amax2uint, rangeStr_str, sliceStr_from, sliceStr_to, List.getElem?_cons_zero, List.getElem?_cons_succ, Option.map_some, Option.bind_some, Int.toNat_natCast, Int.toNat_zero, Int.le_refl, Bool.not_true, Bool.not_false, Bool.not_not, Bool.false_eq_true, if_true, if_false, decide_eq_true_eq, beq_self_eq_true, bool_ft, bool_tf, decide_true, decide_false, reduceCtorEq, cmpNil, cmpRes, boxCells, AV.known, AV.cells, Nat.zero_add, and_self, and_true, true_and, ite_self, forall_const, not_true_eq_false, not_false_eq_true]
      refine c_strings_ContainsRune fs 73 (by decide) ?_
      rw [index_contains]
      cases hI : fs.contains 73 with
      | true =>
        rw [hI] at fin
        simp only [if_true] at fin
        simp only [abin_i_add, abin_i_sub, abin_i_mul, abin_i_eql, abin_i_neq, abin_i_lss, abin_i_leq, abin_i_gtr, abin_i_geq, abin_s_eql, abin_s_neq, bnd_some, bnd_none, branch_bool, gwant_bool, gwant_nothing, aguard_some, wantE_some, pickV_bool, nilck_ptr, nilck_elem, aoff_ptr, aoff_elem, aun_not, aun_neg, lenStr_str, lenSl_nils, lenSl_sl, lenSl_osl, aextract_tup, ld1uelem, idxStr_str, amin2uint, amax2uint, rangeStr_str, sliceStr_from, sliceStr_to, List.getElem?_cons_zero, List.getElem?_cons_succ, Option.map_some, Option.bind_some, Int.toNat_natCast, Int.toNat_zero, Int.le_refl, Bool.not_true, Bool.not_false, Bool.not_not, Bool.false_eq_true, if_true, if_false, decide_eq_true_eq, beq_self_eq_true, bool_ft, bool_tf, decide_true, decide_false, reduceCtorEq, cmpNil, cmpRes, boxCells, AV.known, AV.cells, Nat.zero_add, and_self, and_true, true_and, ite_self, forall_const, not_true_eq_false, not_false_eq_true, ld1uptr (hcell H3 hxx), e0, hc8]
        refine c_message_list m.kind m.items hit hv fun H4 hx4 => ?_
        have := fin H4 (hxx.trans hx4)
        cases hl : listOk m.kind m.items with
        | true => rw [hl] at this; simpa only [abin_i_add, abin_i_sub, abin_i_mul, abin_i_eql, abin_i_neq, abin_i_lss, abin_i_leq, abin_i_gtr, abin_i_geq, abin_s_eql, abin_s_neq, bnd_some, bnd_none, branch_bool, gwant_bool, gwant_nothing, aguard_some, wantE_some, pickV_bool, nilck_ptr, nilck_elem, aoff_ptr, aoff_elem, aun_not, aun_neg, lenStr_str, lenSl_nils, lenSl_sl, lenSl_osl, aextract_tup, ld1uelem, idxStr_str, amin2uint, amax2uint, rangeStr_str, sliceStr_from, sliceStr_to, List.getElem?_cons_zero, List.getElem?_cons_succ, Option.map_some, Option.bind_some, Int.toNat_natCast, Int.toNat_zero, Int.le_refl, Bool.not_true, Bool.not_false, Bool.not_not, Bool.false_eq_true, if_true, if_false, decide_eq_true_eq, beq_self_eq_true, bool_ft, bool_tf, decide_true, decide_false, reduceCtorEq, cmpNil, cmpRes, boxCells, AV.known, AV.cells, Nat.zero_add, and_self, and_true, true_and, ite_self, forall_const, not_true_eq_false, not_false_eq_true] using this
        | false => rw [hl] at this; simpa only [abin_i_add, abin_i_sub, abin_i_mul, abin_i_eql, abin_i_neq, abin_i_lss, abin_i_leq, abin_i_gtr, abin_i_geq, abin_s_eql, abin_s_neq, bnd_some, bnd_none, branch_bool, gwant_bool, gwant_nothing, aguard_some, wantE_some, pickV_bool, nilck_ptr, nilck_elem, aoff_ptr, aoff_elem, aun_not, aun_neg, lenStr_str, lenSl_nils, lenSl_sl, lenSl_osl, aextract_tup, ld1uelem, idxStr_str, amin2uint, amax2uint, rangeStr_str, sliceStr_from, sliceStr_to, List.getElem?_cons_zero, List.getElem?_cons_succ, Option.map_some, Option.bind_some, Int.toNat_natCast, Int.toNat_zero, Int.le_refl, Bool.not_true, Bool.not_false, Bool.not_not, Bool.false_eq_true, if_true, if_false, decide_eq_true_eq, beq_self_eq_true, bool_ft, bool_tf, decide_true, decide_false, reduceCtorEq, cmpNil, cmpRes, boxCells, AV.known, AV.cells, Nat.zero_add, and_self, and_true, true_and, ite_self, forall_const, not_true_eq_false, not_false_eq_true] using this
      | false =>
        rw [hI] at fin
        simp only [Bool.false_eq_true, if_false] at fin
        have := fin H3 hxx
        cases hit' : m.items with
        | nil =>
          rw [hit'] at this hlen
          have e : decide (((([] : List Item).length : Nat) : Int) > 0) = false := rfl
          simp only [abin_i_add, abin_i_sub, abin_i_mul, abin_i_eql, abin_i_neq, abin_i_lss, abin_i_leq, abin_i_gtr, abin_i_geq, abin_s_eql, abin_s_neq, bnd_some, bnd_none, branch_bool, gwant_bool, gwant_nothing, aguard_some, wantE_some, pickV_bool, nilck_ptr, nilck_elem, aoff_ptr, aoff_elem, aun_not, aun_neg, lenStr_str, lenSl_nils, lenSl_sl, lenSl_osl, aextract_tup, ld1uelem, idxStr_str, amin2uint, amax2uint, rangeStr_str, sliceStr_from, sliceStr_to, List.getElem?_cons_zero, List.getElem?_cons_succ, Option.map_some, Option.bind_some, Int.toNat_natCast, Int.toNat_zero, Int.le_refl, Bool.not_true, Bool.not_false, Bool.not_not, Bool.false_eq_true, if_true, if_false, decide_eq_true_eq, beq_self_eq_true, bool_ft, bool_tf, decide_true, decide_false, reduceCtorEq, cmpNil, cmpRes, boxCells, AV.known, AV.cells, Nat.zero_add, and_self, and_true, true_and, ite_self, forall_const, not_true_eq_false, not_false_eq_true, ld1uptr (hcell H3 hxx), hc8, hlen, e]
          simpa using this
        | cons a l =>
          rw [hit'] at this hlen
          have e : decide ((((a :: l).length : Nat) : Int) > 0) = true := by simp only [List.length_cons]; simp
          simp only [abin_i_add, abin_i_sub, abin_i_mul, abin_i_eql, abin_i_neq, abin_i_lss, abin_i_leq, abin_i_gtr, abin_i_geq, abin_s_eql, abin_s_neq, bnd_some, bnd_none, branch_bool, gwant_bool, gwant_nothing, aguard_some, wantE_some, pickV_bool, nilck_ptr, nilck_elem, aoff_ptr, aoff_elem, aun_not, aun_neg, lenStr_str, lenSl_nils, lenSl_sl, lenSl_osl, aextract_tup, ld1uelem, idxStr_str, amin2uint, amax2uint, rangeStr_str, sliceStr_from, sliceStr_to, List.getElem?_cons_zero, List.getElem?_cons_succ, Option.map_some, Option.bind_some, Int.toNat_natCast, Int.toNat_zero, Int.le_refl, Bool.not_true, Bool.not_false, Bool.not_not, Bool.false_eq_true, if_true, if_false, decide_eq_true_eq, beq_self_eq_true, bool_ft, bool_tf, decide_true, decide_false, reduceCtorEq, cmpNil, cmpRes, boxCells, AV.known, AV.cells, Nat.zero_add, and_self, and_true, true_and, ite_self, forall_const, not_true_eq_false, not_false_eq_true, ld1uptr (hcell H3 hxx), hc8, hlen, e]
          simpa using this
    · -- one number
      obtain ⟨f, k, n, hkey, hval, hck, hG, hB⟩ : ∃ (f : UInt8) (k : Nat) (n : Int), e.key = .int .i32 f.toNat ∧ e.val = .ptr H.next k ∧ (msgCells m iv)[k]? = some (.int .i64 n) ∧ (numOk fs f n = true → G2 e) ∧ (numOk fs f n = false → checkM m = false) := by
        have hm := hfs'.sub e hee
        simp only [List.mem_cons, Prod.mk.injEq, List.not_mem_nil, or_false] at hm
        rcases hm with ⟨a, b⟩ | ⟨a, b⟩ | ⟨a, b⟩ | ⟨a, b⟩
        · exact ⟨78, 4, m.n, a, b, rfl, fun hh => ⟨fun _ => hh, by rw [a]; simp, by rw [a]; simp, by rw [a]; simp⟩, fun hh => by rw [hcheck, hh]; simp⟩
        · exact ⟨83, 5, m.state, a, b, rfl, fun hh => ⟨by rw [a]; simp, fun _ => hh, by rw [a]; simp, by rw [a]; simp⟩, fun hh => by rw [hcheck, hh]; simp⟩
        · exact ⟨85, 6, m.num, a, b, rfl, fun hh => ⟨by rw [a]; simp, by rw [a]; simp, fun _ => hh, by rw [a]; simp⟩, fun hh => by rw [hcheck, hh]; simp⟩
        · exact ⟨80, 7, m.epoch, a, b, rfl, fun hh => ⟨by rw [a]; simp, by rw [a]; simp, by rw [a]; simp, fun _ => hh⟩, fun hh => by rw [hcheck, hh]; simp⟩
      have hxp : Ext H2 (H3.put (H2.next + 1) (.mIter (some H2.next) 4 (seen3 ++ [e.born]) 4)) := hx3.put (by omega) _
      have hrp : (H3.put (H2.next + 1) (.mIter (some H2.next) 4 (seen3 ++ [e.born]) 4)).get H2.next = some (.map fs' 4) := by rw [get_put_ne _ _ (by omega)]; exact hr3
      have hent := entryOf_at hfs'.nodup hee (get_put_self H3 (H2.next + 1) (.mIter (some H2.next) 4 (seen3 ++ [e.born]) 4)) hrp
      have go : ∀ H', Ext (H3.put (H2.next + 1) (.mIter (some H2.next) 4 (seen3 ++ [e.born]) 4)) H' → numOk fs f n = true → Y3 [.ptr H.next 0, .str fs, .iter (H2.next + 1)] H' := fun H' hx' hh =>
        hY3 e hee hns H' hx'.next (hxp.trans hx') (hx'.get_lt hin3 (get_put_self _ _ _)) (hx'.get_lt hrn3 hrp) (hG hh)
      have no : ∀ H', Ext H2 H' → numOk fs f n = false → K (.int .i64 1) H' := fun H' hx' hh => bad H' (hx2.trans hx') (hB hh)
      simp only [abin_i_add, abin_i_sub, abin_i_mul, abin_i_eql, abin_i_neq, abin_i_lss, abin_i_leq, abin_i_gtr, abin_i_geq, abin_s_eql, abin_s_neq, bnd_some, bnd_none, branch_bool, gwant_bool, gwant_nothing, aguard_some, wantE_some, pickV_bool, nilck_ptr, nilck_elem, aoff_ptr, aoff_elem, aun_not, aun_neg, lenStr_str, lenSl_nils, lenSl_sl, lenSl_osl, aextract_tup, ld1uelem, idxStr_str, amin2uint, amax2uint, rangeStr_str, sliceStr_from, sliceStr_to, List.getElem?_cons_zero, List.getElem?_cons_succ, Option.map_some, Option.bind_some, Int.toNat_natCast, Int.toNat_zero, Int.le_refl, Bool.not_true, Bool.not_false, Bool.not_not, Bool.false_eq_true, if_true, if_false, decide_eq_true_eq, beq_self_eq_true, bool_ft, bool_tf, decide_true, decide_false, reduceCtorEq, cmpNil, cmpRes, boxCells, AV.known, AV.cells, Nat.zero_add, and_self, and_true, true_and, ite_self, forall_const, not_true_eq_false, not_false_eq_true, hent, hkey, hval]
      refine c_holds fs hsm f fun H4 hx4 => ?_
      have hx4' := hxp.trans hx4
      unfold numOk at go no
      cases hc : fs.contains f with
      | true =>
        rw [hc] at go no
        simp only [if_true] at go no
        simp only [abin_i_add, abin_i_sub, abin_i_mul, abin_i_eql, abin_i_neq, abin_i_lss, abin_i_leq, abin_i_gtr, abin_i_geq, abin_s_eql, abin_s_neq, bnd_some, bnd_none, branch_bool, gwant_bool, gwant_nothing, aguard_some, wantE_some, pickV_bool, nilck_ptr, nilck_elem, aoff_ptr, aoff_elem, aun_not, aun_neg, lenStr_str, lenSl_nils, lenSl_sl, lenSl_osl, aextract_tup, ld1uelem, idxStr_str, amin2uint, amax2uint, rangeStr_str, sliceStr_from, sliceStr_to, List.getElem?_cons_zero, List.getElem?_cons_succ, Option.map_some, Option.bind_some, Int.toNat_natCast, Int.toNat_zero, Int.le_refl, Bool.not_true, Bool.not_false, Bool.not_not, Bool.false_eq_true, if_true, if_false, decide_eq_true_eq, beq_self_eq_true, bool_ft, bool_tf, decide_true, decide_false, reduceCtorEq, cmpNil, cmpRes, boxCells, AV.known, AV.cells, Nat.zero_add, and_self, and_true, true_and, ite_self, forall_const, not_true_eq_false, not_false_eq_true, ld1uptr (hcell H4 (hx2.trans hx4')), hck]
        refine c_message_number f n ?_
        cases hr : numberOk f n with
        | true => simp only [abin_i_add, abin_i_sub, abin_i_mul, abin_i_eql, abin_i_neq, abin_i_lss, abin_i_leq, abin_i_gtr, abin_i_geq, abin_s_eql, abin_s_neq, bnd_some, bnd_none, branch_bool, gwant_bool, gwant_nothing, aguard_some, wantE_some, pickV_bool, nilck_ptr, nilck_elem, aoff_ptr, aoff_elem, aun_not, aun_neg, lenStr_str, lenSl_nils, lenSl_sl, lenSl_osl, aextract_tup, ld1uelem, idxStr_str, amin2uint, amax2uint, rangeStr_str, sliceStr_from, sliceStr_to, List.getElem?_cons_zero, List.getElem?_cons_succ, Option.map_some, Option.bind_some, Int.toNat_natCast, Int.toNat_zero, Int.le_refl, Bool.not_true, Bool.not_false, Bool.not_not, Bool.false_eq_true, if_true, if_false, decide_eq_true_eq, beq_self_eq_true, bool_ft, bool_tf, decide_true, decide_false, reduceCtorEq, cmpNil, cmpRes, boxCells, AV.known, AV.cells, Nat.zero_add, and_self, and_true, true_and, ite_self, forall_const, not_true_eq_false, not_false_eq_true]; exact go H4 hx4 hr
        | false => simp only [abin_i_add, abin_i_sub, abin_i_mul, abin_i_eql, abin_i_neq, abin_i_lss, abin_i_leq, abin_i_gtr, abin_i_geq, abin_s_eql, abin_s_neq, bnd_some, bnd_none, branch_bool, gwant_bool, gwant_nothing, aguard_some, wantE_some, pickV_bool, nilck_ptr, nilck_elem, aoff_ptr, aoff_elem, aun_not, aun_neg, lenStr_str, lenSl_nils, lenSl_sl, lenSl_osl, aextract_tup, ld1uelem, idxStr_str, amin2uint, amax2uint, rangeStr_str, sliceStr_from, sliceStr_to, List.getElem?_cons_zero, List.getElem?_cons_succ, Option.map_some, Option.bind_some, Int.toNat_natCast, Int.toNat_zero, Int.le_refl, Bool.not_true, Bool.not_false, Bool.not_not, Bool.false_eq_true, if_true, if_false, decide_eq_true_eq, beq_self_eq_true, bool_ft, bool_tf, decide_true, decide_false, reduceCtorEq, cmpNil, cmpRes, boxCells, AV.known, AV.cells, Nat.zero_add, and_self, and_true, true_and, ite_self, forall_const, not_true_eq_false, not_false_eq_true]; exact no H4 hx4' hr
      | false =>
        rw [hc] at go no
        simp only [Bool.false_eq_true, if_false] at go no
        have en : (n != 0) = !(n == 0) := rfl
        simp only [abin_i_add, abin_i_sub, abin_i_mul, abin_i_eql, abin_i_neq, abin_i_lss, abin_i_leq, abin_i_gtr, abin_i_geq, abin_s_eql, abin_s_neq, bnd_some, bnd_none, branch_bool, gwant_bool, gwant_nothing, aguard_some, wantE_some, pickV_bool, nilck_ptr, nilck_elem, aoff_ptr, aoff_elem, aun_not, aun_neg, lenStr_str, lenSl_nils, lenSl_sl, lenSl_osl, aextract_tup, ld1uelem, idxStr_str, amin2uint, amax2uint, rangeStr_str, sliceStr_from, sliceStr_to, List.getElem?_cons_zero, List.getElem?_cons_succ, Option.map_some, Option.bind_some, Int.toNat_natCast, Int.toNat_zero, Int.le_refl, Bool.not_true, Bool.not_false, Bool.not_not, Bool.false_eq_true, if_true, if_false, decide_eq_true_eq, beq_self_eq_true, bool_ft, bool_tf, decide_true, decide_false, reduceCtorEq, cmpNil, cmpRes, boxCells, AV.known, AV.cells, Nat.zero_add, and_self, and_true, true_and, ite_self, forall_const, not_true_eq_false, not_false_eq_true, ld1uptr (hcell H4 (hx2.trans hx4')), hck, en]
        cases hr : (n == 0) with
        | true => simp only [abin_i_add, abin_i_sub, abin_i_mul, abin_i_eql, abin_i_neq, abin_i_lss, abin_i_leq, abin_i_gtr, abin_i_geq, abin_s_eql, abin_s_neq, bnd_some, bnd_none, branch_bool, gwant_bool, gwant_nothing, aguard_some, wantE_some, pickV_bool, nilck_ptr, nilck_elem, aoff_ptr, aoff_elem, aun_not, aun_neg, lenStr_str, lenSl_nils, lenSl_sl, lenSl_osl, aextract_tup, ld1uelem, idxStr_str, amin2uint, amax2uint, rangeStr_str, sliceStr_from, sliceStr_to, List.getElem?_cons_zero, List.getElem?_cons_succ, Option.map_some, Option.bind_some, Int.toNat_natCast, Int.toNat_zero, Int.le_refl, Bool.not_true, Bool.not_false, Bool.not_not, Bool.false_eq_true, if_true, if_false, decide_eq_true_eq, beq_self_eq_true, bool_ft, bool_tf, decide_true, decide_false, reduceCtorEq, cmpNil, cmpRes, boxCells, AV.known, AV.cells, Nat.zero_add, and_self, and_true, true_and, ite_self, forall_const, not_true_eq_false, not_false_eq_true]; exact go H4 hx4 hr
        | false => simp only [abin_i_add, abin_i_sub, abin_i_mul, abin_i_eql, abin_i_neq, abin_i_lss, abin_i_leq, abin_i_gtr, abin_i_geq, abin_s_eql, abin_s_neq, bnd_some, bnd_none, branch_bool, gwant_bool, gwant_nothing, aguard_some, wantE_some, pickV_bool, nilck_ptr, nilck_elem, aoff_ptr, aoff_elem, aun_not, aun_neg, lenStr_str, lenSl_nils, lenSl_sl, lenSl_osl, aextract_tup, ld1uelem, idxStr_str, amin2uint, amax2uint, rangeStr_str, sliceStr_from, sliceStr_to, List.getElem?_cons_zero, List.getElem?_cons_succ, Option.map_some, Option.bind_some, Int.toNat_natCast, Int.toNat_zero, Int.le_refl, Bool.not_true, Bool.not_false, Bool.not_not, Bool.false_eq_true, if_true, if_false, decide_eq_true_eq, beq_self_eq_true, bool_ft, bool_tf, decide_true, decide_false, reduceCtorEq, cmpNil, cmpRes, boxCells, AV.known, AV.cells, Nat.zero_add, and_self, and_true, true_and, ite_self, forall_const, not_true_eq_false, not_false_eq_true]; exact no H4 hx4' hr
  · -- one text
    obtain ⟨f, k, s, hkey, hval, hck, hsl, hG, hB⟩ : ∃ (f : UInt8) (k : Nat) (s : Bs), e.key = .int .i32 f.toNat ∧ e.val = .ptr H.next k ∧ (msgCells m iv)[k]? = some (.str s) ∧ s.length ≤ 1000000000 ∧ (textOk fs f s = true → G1 e) ∧ (textOk fs f s = false → checkM m = false) := by
      have hm := hes.sub e hee
      simp only [List.mem_cons, Prod.mk.injEq, List.not_mem_nil, or_false] at hm
      rcases hm with ⟨a, b⟩ | ⟨a, b⟩ | ⟨a, b⟩
      · exact ⟨70, 1, m.f, a, b, rfl, hf, fun hh => ⟨fun _ => hh, by rw [a]; simp, by rw [a]; simp⟩, fun hh => by rw [hcheck, hh]; simp⟩
      · exact ⟨69, 2, m.e, a, b, rfl, he, fun hh => ⟨by rw [a]; simp, fun _ => hh, by rw [a]; simp⟩, fun hh => by rw [hcheck, hh]; simp⟩
      · exact ⟨84, 3, m.t, a, b, rfl, ht, fun hh => ⟨by rw [a]; simp, by rw [a]; simp, fun _ => hh⟩, fun hh => by rw [hcheck, hh]; simp⟩
    have hxp : Ext H1 (H2.put (H1.next + 1) (.mIter (some H1.next) 3 (seen ++ [e.born]) 3)) := hx2.put (by omega) _
    have hrp : (H2.put (H1.next + 1) (.mIter (some H1.next) 3 (seen ++ [e.born]) 3)).get H1.next = some (.map es 3) := by rw [get_put_ne _ _ (by omega)]; exact hr2
    have hent := entryOf_at hes.nodup hee (get_put_self H2 (H1.next + 1) (.mIter (some H1.next) 3 (seen ++ [e.born]) 3)) hrp
    have go : ∀ H', Ext (H2.put (H1.next + 1) (.mIter (some H1.next) 3 (seen ++ [e.born]) 3)) H' → textOk fs f s = true → Y [.ptr H.next 0, .str fs, .iter (H1.next + 1)] H' := fun H' hx' hh =>
      hY e hee hns H' hx'.next (hxp.trans hx') (hx'.get_lt hin2 (get_put_self _ _ _)) (hx'.get_lt hrn2 hrp) (hG hh)
    have no : ∀ H', Ext H1 H' → textOk fs f s = false → K (.int .i64 1) H' := fun H' hx' hh => bad H' hx' (hB hh)
    simp only [abin_i_add, abin_i_sub, abin_i_mul, abin_i_eql, abin_i_neq, abin_i_lss, abin_i_leq, abin_i_gtr, abin_i_geq, abin_s_eql, abin_s_neq, bnd_some, bnd_none, branch_bool, gwant_bool, gwant_nothing, aguard_some, wantE_some, pickV_bool, nilck_ptr, nilck_elem, aoff_ptr, aoff_elem, aun_not, aun_neg, lenStr_str, lenSl_nils, lenSl_sl, lenSl_osl, aextract_tup, ld1uelem, idxStr_str, amin2uint, amax2uint, rangeStr_str, sliceStr_from, sliceStr_to, List.getElem?_cons_zero, List.getElem?_cons_succ, Option.map_some, Option.bind_some, Int.toNat_natCast, Int.toNat_zero, Int.le_refl, Bool.not_true, Bool.not_false, Bool.not_not, Bool.false_eq_true, if_true, if_false, decide_eq_true_eq, beq_self_eq_true, bool_ft, bool_tf, decide_true, decide_false, reduceCtorEq, cmpNil, cmpRes, boxCells, AV.known, AV.cells, Nat.zero_add, and_self, and_true, true_and, ite_self, forall_const, not_true_eq_false, not_false_eq_true, hent, hkey, hval]
    refine c_holds fs hsm f fun H3 hx3 => ?_
    have hx3' := hxp.trans hx3
    unfold textOk at go no
    cases hc : fs.contains f with
    | true =>
      rw [hc] at go no
      simp only [if_true] at go no
      simp only [abin_i_add, abin_i_sub, abin_i_mul, abin_i_eql, abin_i_neq, abin_i_lss, abin_i_leq, abin_i_gtr, abin_i_geq, abin_s_eql, abin_s_neq, bnd_some, bnd_none, branch_bool, gwant_bool, gwant_nothing, aguard_some, wantE_some, pickV_bool, nilck_ptr, nilck_elem, aoff_ptr, aoff_elem, aun_not, aun_neg, lenStr_str, lenSl_nils, lenSl_sl, lenSl_osl, aextract_tup, ld1uelem, idxStr_str, amin2uint, amax2uint, rangeStr_str, sliceStr_from, sliceStr_to, List.getElem?_cons_zero, List.getElem?_cons_succ, Option.map_some, Option.bind_some, Int.toNat_natCast, Int.toNat_zero, Int.le_refl, Bool.not_true, Bool.not_false, Bool.not_not, Bool.false_eq_true, if_true, if_false, decide_eq_true_eq, beq_self_eq_true, bool_ft, bool_tf, decide_true, decide_false, reduceCtorEq, cmpNil, cmpRes, boxCells, AV.known, AV.cells, Nat.zero_add, and_self, and_true, true_and, ite_self, forall_const, not_true_eq_false, not_false_eq_true, ld1uptr (hcell H3 hx3'), hck]
      refine c_name_Right s (by omega) fun H4 hx4 => ?_
      have er : (s != [] && decide (s.length ≤ 8) && s.all isNm) = rightN s := rfl
      rw [er]
      cases hr : rightN s with
      | true => simp only [abin_i_add, abin_i_sub, abin_i_mul, abin_i_eql, abin_i_neq, abin_i_lss, abin_i_leq, abin_i_gtr, abin_i_geq, abin_s_eql, abin_s_neq, bnd_some, bnd_none, branch_bool, gwant_bool, gwant_nothing, aguard_some, wantE_some, pickV_bool, nilck_ptr, nilck_elem, aoff_ptr, aoff_elem, aun_not, aun_neg, lenStr_str, lenSl_nils, lenSl_sl, lenSl_osl, aextract_tup, ld1uelem, idxStr_str, amin2uint, amax2uint, rangeStr_str, sliceStr_from, sliceStr_to, List.getElem?_cons_zero, List.getElem?_cons_succ, Option.map_some, Option.bind_some, Int.toNat_natCast, Int.toNat_zero, Int.le_refl, Bool.not_true, Bool.not_false, Bool.not_not, Bool.false_eq_true, if_true, if_false, decide_eq_true_eq, beq_self_eq_true, bool_ft, bool_tf, decide_true, decide_false, reduceCtorEq, cmpNil, cmpRes, boxCells, AV.known, AV.cells, Nat.zero_add, and_self, and_true, true_and, ite_self, forall_const, not_true_eq_false, not_false_eq_true]; exact go H4 (hx3.trans hx4) hr
      | false => simp only [abin_i_add, abin_i_sub, abin_i_mul, abin_i_eql, abin_i_neq, abin_i_lss, abin_i_leq, abin_i_gtr, abin_i_geq, abin_s_eql, abin_s_neq, bnd_some, bnd_none, branch_bool, gwant_bool, gwant_nothing, aguard_some, wantE_some, pickV_bool, nilck_ptr, nilck_elem, aoff_ptr, aoff_elem, aun_not, aun_neg, lenStr_str, lenSl_nils, lenSl_sl, lenSl_osl, aextract_tup, ld1uelem, idxStr_str, amin2uint, amax2uint, rangeStr_str, sliceStr_from, sliceStr_to, List.getElem?_cons_zero, List.getElem?_cons_succ, Option.map_some, Option.bind_some, Int.toNat_natCast, Int.toNat_zero, Int.le_refl, Bool.not_true, Bool.not_false, Bool.not_not, Bool.false_eq_true, if_true, if_false, decide_eq_true_eq, beq_self_eq_true, bool_ft, bool_tf, decide_true, decide_false, reduceCtorEq, cmpNil, cmpRes, boxCells, AV.known, AV.cells, Nat.zero_add, and_self, and_true, true_and, ite_self, forall_const, not_true_eq_false, not_false_eq_true]; exact no H4 (hx3'.trans hx4) hr
    | false =>
      rw [hc] at go no
      simp only [Bool.false_eq_true, if_false] at go no
      simp only [abin_i_add, abin_i_sub, abin_i_mul, abin_i_eql, abin_i_neq, abin_i_lss, abin_i_leq, abin_i_gtr, abin_i_geq, abin_s_eql, abin_s_neq, bnd_some, bnd_none, branch_bool, gwant_bool, gwant_nothing, aguard_some, wantE_some, pickV_bool, nilck_ptr, nilck_elem, aoff_ptr, aoff_elem, aun_not, aun_neg, lenStr_str, lenSl_nils, lenSl_sl, lenSl_osl, aextract_tup, ld1uelem, idxStr_str, amin2uint, amax2uint, rangeStr_str, sliceStr_from, sliceStr_to, List.getElem?_cons_zero, List.getElem?_cons_succ, Option.map_some, Option.bind_some, Int.toNat_natCast, Int.toNat_zero, Int.le_refl, Bool.not_true, Bool.not_false, Bool.not_not, Bool.false_eq_true, if_true, if_false, decide_eq_true_eq, beq_self_eq_true, bool_ft, bool_tf, decide_true, decide_false, reduceCtorEq, cmpNil, cmpRes, boxCells, AV.known, AV.cells, Nat.zero_add, and_self, and_true, true_and, ite_self, forall_const, not_true_eq_false, not_false_eq_true, ld1uptr (hcell H3 hx3'), hck]
      cases hr : (s == []) with
      | true => simp only [abin_i_add, abin_i_sub, abin_i_mul, abin_i_eql, abin_i_neq, abin_i_lss, abin_i_leq, abin_i_gtr, abin_i_geq, abin_s_eql, abin_s_neq, bnd_some, bnd_none, branch_bool, gwant_bool, gwant_nothing, aguard_some, wantE_some, pickV_bool, nilck_ptr, nilck_elem, aoff_ptr, aoff_elem, aun_not, aun_neg, lenStr_str, lenSl_nils, lenSl_sl, lenSl_osl, aextract_tup, ld1uelem, idxStr_str, amin2uint, amax2uint, rangeStr_str, sliceStr_from, sliceStr_to, List.getElem?_cons_zero, List.getElem?_cons_succ, Option.map_some, Option.bind_some, Int.toNat_natCast, Int.toNat_zero, Int.le_refl, Bool.not_true, Bool.not_false, Bool.not_not, Bool.false_eq_true, if_true, if_false, decide_eq_true_eq, beq_self_eq_true, bool_ft, bool_tf, decide_true, decide_false, reduceCtorEq, cmpNil, cmpRes, boxCells, AV.known, AV.cells, Nat.zero_add, and_self, and_true, true_and, ite_self, forall_const, not_true_eq_false, not_false_eq_true]; exact go H3 hx3 hr
      | false => simp only [abin_i_add, abin_i_sub, abin_i_mul, abin_i_eql, abin_i_neq, abin_i_lss, abin_i_leq, abin_i_gtr, abin_i_geq, abin_s_eql, abin_s_neq, bnd_some, bnd_none, branch_bool, gwant_bool, gwant_nothing, aguard_some, wantE_some, pickV_bool, nilck_ptr, nilck_elem, aoff_ptr, aoff_elem, aun_not, aun_neg, lenStr_str, lenSl_nils, lenSl_sl, lenSl_osl, aextract_tup, ld1uelem, idxStr_str, amin2uint, amax2uint, rangeStr_str, sliceStr_from, sliceStr_to, List.getElem?_cons_zero, List.getElem?_cons_succ, Option.map_some, Option.bind_some, Int.toNat_natCast, Int.toNat_zero, Int.le_refl, Bool.not_true, Bool.not_false, Bool.not_not, Bool.false_eq_true, if_true, if_false, decide_eq_true_eq, beq_self_eq_true, bool_ft, bool_tf, decide_true, decide_false, reduceCtorEq, cmpNil, cmpRes, boxCells, AV.known, AV.cells, Nat.zero_add, and_self, and_true, true_and, ite_self, forall_const, not_true_eq_false, not_false_eq_true]; exact no H3 hx3' hr
end Go.Va
