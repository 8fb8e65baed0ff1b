/-
  Contracts: the words of a line.
-/
import Derived.Test.YtfldcobcnlgapaaDoorCtCheck
set_option linter.unusedVariables false
set_option linter.unusedSimpArgs false
set_option maxRecDepth 100000
namespace Go.Va
/-- H' is H but for these objects, and more -/
structure ExtO (S : List Nat) (H H' : AH) : Prop where
  next : H.next ≤ H'.next
  get : ∀ o, o < H.next → o ∉ S → H'.get o = H.get o
  tok : ∀ c, c < H.next → H'.tok c = H.tok c
theorem Ext.toO {H H' : AH} (h : Ext H H') (S : List Nat) : ExtO S H H' := ⟨h.next, fun o ho _ => h.get o ho, h.tok⟩
theorem ExtO.refl (S : List Nat) (H : AH) : ExtO S H H := (Ext.refl H).toO S
theorem ExtO.trans {S : List Nat} {H H' H'' : AH} (h : ExtO S H H') (h' : ExtO S H' H'') : ExtO S H H'' :=
  ⟨Nat.le_trans h.next h'.next, fun o ho hs => (h'.get o (Nat.lt_of_lt_of_le ho h.next) hs).trans (h.get o ho hs), fun c hc => (h'.tok c (Nat.lt_of_lt_of_le hc h.next)).trans (h.tok c hc)⟩
theorem ExtO.mono {S T : List Nat} {H H' : AH} (h : ExtO S H H') (hs : ∀ o ∈ S, o ∈ T) : ExtO T H H' := ⟨h.next, fun o ho hn => h.get o ho fun hm => hn (hs o hm), h.tok⟩
theorem ExtO.put {S : List Nat} {H H' : AH} (h : ExtO S H H') {o : Nat} (ho : o ∈ S ∨ H.next ≤ o) (x : AObj) : ExtO S H (H'.put o x) :=
  ⟨h.next, fun o' ho' hn => by
    have : o' ≠ o := by rintro rfl; rcases ho with ho | ho; exact hn ho; omega
    rw [get_put_ne _ _ this]; exact h.get o' ho' hn, h.tok⟩
theorem ExtO.add {S : List Nat} {H H' : AH} (h : ExtO S H H') (x : AObj) : ExtO S H (H'.add x) := h.trans (((Ext.refl H').add x).toO S)
theorem ExtO.ext {S : List Nat} {H0 H H' : AH} (h0 : Ext H0 H) (h : ExtO S H H') (hs : ∀ o ∈ S, H0.next ≤ o) : Ext H0 H' :=
  ⟨Nat.le_trans h0.next h.next, fun o ho => (h.get o (Nat.lt_of_lt_of_le ho h0.next) fun hm => by have := hs o hm; omega).trans (h0.get o ho), fun c hc => (h.tok c (Nat.lt_of_lt_of_le hc h0.next)).trans (h0.tok c hc)⟩
theorem ExtO.get_lt {S : List Nat} {H H' : AH} (h : ExtO S H H') {o : Nat} {x : AObj} (ho : o < H.next) (hn : o ∉ S) (hg : H.get o = some x) : H'.get o = some x := by rw [h.get o ho hn]; exact hg

-- ---------------------------------------------------------------- the model
structure Wds where
  l : List Bs
  bad : Bool
def nextW (w : Wds) : Bs × Wds := match w.l with
  | [] => ([], ⟨[], true⟩)
  | s :: l => (s, ⟨l, w.bad⟩)
def numberW (w : Wds) : Nat × Wds := let r := nextW w; ((number r.1).getD 0, ⟨r.2.l, r.2.bad || !(number r.1).isSome⟩)
def needOf (a b : Nat) : Nat × Nat := if a ≤ 100000 ∧ b ≤ 100000 then (a, b) else (0, 0)
def itemW (needs : Bool) (w : Wds) : Item × Wds :=
  let r := nextW w
  if needs then
    let a := numberW r.2
    let b := numberW a.2
    (⟨r.1, (needOf a.1 b.1).1, (needOf a.1 b.1).2⟩, b.2)
  else (⟨r.1, 0, 0⟩, r.2)
theorem nextW_len (w : Wds) : (nextW w).2.l.length ≤ w.l.length := by
  unfold nextW; split <;> simp_all
theorem numberW_len (w : Wds) : (numberW w).2.l.length ≤ w.l.length := nextW_len w
theorem itemW_lt (needs : Bool) (w : Wds) (h : 0 < w.l.length) : (itemW needs w).2.l.length < w.l.length := by
  have h1 : (nextW w).2.l.length < w.l.length := by
    unfold nextW
    cases hw : w.l with
    | nil => rw [hw] at h; simp at h
    | cons a l => simp
  unfold itemW
  cases needs with
  | false => simpa using h1
  | true =>
    simp only [if_true]
    have h2 := numberW_len (nextW w).2
    have h3 := numberW_len (numberW (nextW w).2).2
    omega
def itemsF (needs : Bool) : Nat → Wds → List Item × Wds
  | 0, w => ([], w)
  | k + 1, w => if 0 < w.l.length ∧ w.bad = false then
      let r := itemW needs w
      let q := itemsF needs k r.2
      (r.1 :: q.1, q.2)
    else ([], w)
def itemsW (needs : Bool) (w : Wds) : List Item × Wds := itemsF needs w.l.length w
theorem itemsF_eq (needs : Bool) : ∀ (k : Nat) (w : Wds) (k' : Nat), w.l.length ≤ k → w.l.length ≤ k' → itemsF needs k w = itemsF needs k' w
  | 0, w, 0, _, _ => rfl
  | 0, w, k' + 1, h, _ => by
    have : ¬ (0 < w.l.length ∧ w.bad = false) := by omega
    simp only [itemsF]; rw [if_neg this]
  | k + 1, w, 0, _, h => by
    have : ¬ (0 < w.l.length ∧ w.bad = false) := by omega
    simp only [itemsF]; rw [if_neg this]
  | k + 1, w, k' + 1, h, h' => by
    simp only [itemsF]
    by_cases hc : 0 < w.l.length ∧ w.bad = false
    · have hlt := itemW_lt needs w hc.1
      rw [if_pos hc, if_pos hc, itemsF_eq needs k (itemW needs w).2 k' (by omega) (by omega)]
    · rw [if_neg hc, if_neg hc]
theorem itemsW_eq (needs : Bool) (w : Wds) : itemsW needs w = if h : 0 < w.l.length ∧ w.bad = false then ((itemW needs w).1 :: (itemsW needs (itemW needs w).2).1, (itemsW needs (itemW needs w).2).2) else ([], w) := by
  by_cases hc : 0 < w.l.length ∧ w.bad = false
  · rw [dif_pos hc]
    have hlt := itemW_lt needs w hc.1
    obtain ⟨k, hk⟩ : ∃ k, w.l.length = k + 1 := ⟨w.l.length - 1, by omega⟩
    have e : itemsW needs w = itemsF needs (k + 1) w := by unfold itemsW; rw [hk]
    rw [e]
    simp only [itemsF]
    rw [if_pos hc, itemsF_eq needs k (itemW needs w).2 (itemW needs w).2.l.length (by omega) (Nat.le_refl _)]
    rfl
  · rw [dif_neg hc]
    unfold itemsW
    cases hl : w.l.length with
    | zero => rfl
    | succ k => simp only [itemsF]; rw [if_neg hc]

def WSmall (l : List Bs) : Prop := l.length ≤ 1000000000 ∧ ∀ s ∈ l, s.length ≤ 1000000000
theorem nextW_small {w : Wds} (h : WSmall w.l) : WSmall (nextW w).2.l ∧ (nextW w).1.length ≤ 1000000000 := by
  unfold nextW
  cases hw : w.l with
  | nil => exact ⟨⟨by simp, by simp⟩, by simp⟩
  | cons a l =>
    rw [hw] at h
    exact ⟨⟨by have := h.1; simp at this ⊢; omega, fun s hs => h.2 s (List.mem_cons_of_mem _ hs)⟩, h.2 a (List.mem_cons_self ..)⟩
theorem numberW_small {w : Wds} (h : WSmall w.l) : WSmall (numberW w).2.l ∧ (numberW w).1 < 1000000000 := by
  refine ⟨(nextW_small h).1, ?_⟩
  simp only [numberW, number]
  split
  · rename_i hc
    simp only [Option.getD_some]
    have := numOf_lt (nextW w).1 0 hc.2.2.1
    refine Nat.lt_of_lt_of_le this ?_
    rw [Nat.zero_add, Nat.one_mul]
    exact Nat.pow_le_pow_right (by omega) hc.2.1
  · simp
theorem needOf_le (a b : Nat) : (needOf a b).1 ≤ 100000 ∧ (needOf a b).2 ≤ 100000 := by
  unfold needOf; split
  · assumption
  · exact ⟨by simp, by simp⟩
theorem itemW_small {needs : Bool} {w : Wds} (h : WSmall w.l) : WSmall (itemW needs w).2.l ∧ ItemSmall (itemW needs w).1 := by
  obtain ⟨h1, h2⟩ := nextW_small h
  unfold itemW
  cases needs with
  | false => exact ⟨h1, by simp [ItemSmall], by simp, h2⟩
  | true =>
    obtain ⟨h3, _⟩ := numberW_small h1
    obtain ⟨h5, _⟩ := numberW_small h3
    have := needOf_le (numberW (nextW w).2).1 (numberW (numberW (nextW w).2).2).1
    exact ⟨h5, by simp only [if_true]; omega, by simp only [if_true]; omega, h2⟩

-- ---------------------------------------------------------------- the object
/-- object o is these words -/
def IsWords (H : AH) (o : Nat) (w : Wds) : Prop := ∃ g, H.get o = some (.cells [.sl g 1 (w.l.map .str), .bool w.bad])
theorem IsWords.lt {H H' : AH} {o o' : Nat} {w : Wds} (h : IsWords H o w) (hx : ExtO [o'] H H') (ho : o < H.next) (hn : o ≠ o') : IsWords H' o w := by
  obtain ⟨g, hg⟩ := h
  exact ⟨g, hx.get_lt ho (by simpa using hn) hg⟩
theorem IsWords.ext {H H' : AH} {o : Nat} {w : Wds} (h : IsWords H o w) (hx : Ext H H') (ho : o < H.next) : IsWords H' o w := by
  obtain ⟨g, hg⟩ := h
  exact ⟨g, hx.get_lt ho hg⟩
theorem sliceSl_from1 (g : Grow) (x : AV) (l : List AV) : sliceSl 1 (.sl g 1 (x :: l)) (some (.int .i64 1)) none none = some (.sl g 1 l) := by
  have h : (0 : Int) ≤ 1 ∧ (1 : Int) ≤ ((l.length + 1 : Nat) : Int) := by omega
  simp [sliceSl, abound]
  omega
theorem c_words_next (o : Nat) (w : Wds) (hw : WSmall w.l) {H : AH} (ho : o < H.next) (hs : IsWords H o w) {K : AV → AH → Prop}
    (h : ∀ H', ExtO [o] H H' → IsWords H' o (nextW w).2 → K (.str (nextW w).1) H') : r_script_words_next [.ptr o 0] H K := by
  obtain ⟨g, hg⟩ := hs
  obtain ⟨l, bad⟩ := w
  cases l with
  | nil =>
    have e1 : ([AV.sl g 1 (([] : List Bs).map .str), .bool bad])[0]? = some (.sl g 1 []) := rfl
    have e2 := ast1uptr hg (i := 1) (v := .bool true) rfl (by simp)
    simp only [r_script_words_next, abin_i_add, abin_i_sub, abin_i_mul, abin_i_eql, abin_i_neq, abin_i_lss, abin_i_leq, abin_i_gtr, abin_i_geq, abin_s_eql, abin_s_neq, bnd_some, bnd_none, branch_bool, gwant_bool, gwant_nothing, aguard_some, wantE_some, pickV_bool, nilck_ptr, nilck_elem, aoff_ptr, aoff_elem, aun_not, aun_neg, lenStr_str, lenSl_nils, lenSl_sl, lenSl_osl, aextract_tup, ld1uelem, idxStr_str, amin2uint, amax2uint, rangeStr_str, sliceStr_from, sliceStr_to, List.getElem?_cons_zero, List.getElem?_cons_succ, Option.map_some, Option.bind_some, Int.toNat_natCast, Int.toNat_zero, Int.le_refl, Bool.not_true, Bool.not_false, Bool.not_not, Bool.false_eq_true, if_true, if_false, decide_eq_true_eq, beq_self_eq_true, bool_ft, bool_tf, decide_true, decide_false, reduceCtorEq, cmpNil, cmpRes, boxCells, AV.known, AV.cells, Nat.zero_add, and_self, and_true, true_and, ite_self, forall_const, not_true_eq_false, not_false_eq_true, ld1uptr hg, e1, List.length_nil, show ((((0 : Nat) : Int)) == 0) = true from rfl, e2]
    exact h _ ((ExtO.refl [o] H).put (.inl (by simp)) _) ⟨g, get_put_self _ _ _⟩
  | cons s l =>
    have hl := hw.1
    simp only [List.length_cons] at hl
    have e0 : ((((s :: l).map AV.str).length : Nat) : Int) = ((l.length + 1 : Nat) : Int) := by simp
    have en : (((l.length + 1 : Nat) : Int) == 0) = false := by simp; omega
    have e1 : ([AV.sl g 1 ((s :: l).map .str), .bool bad])[0]? = some (.sl g 1 (.str s :: l.map .str)) := rfl
    have e3 : idxA 1 (.sl g 1 (.str s :: l.map .str)) (.int .i64 0) = some (.elem [.str s] 0) := by simp [idxA, AV.known, AV.cells]
    have e2 := ast1uptr hg (i := 0) (v := .sl g 1 (l.map .str)) rfl (by simp)
    have el : (((AV.str s :: l.map AV.str).length : Nat) : Int) = ((l.length + 1 : Nat) : Int) := by simp
    simp only [r_script_words_next, abin_i_add, abin_i_sub, abin_i_mul, abin_i_eql, abin_i_neq, abin_i_lss, abin_i_leq, abin_i_gtr, abin_i_geq, abin_s_eql, abin_s_neq, bnd_some, bnd_none, branch_bool, gwant_bool, gwant_nothing, aguard_some, wantE_some, pickV_bool, nilck_ptr, nilck_elem, aoff_ptr, aoff_elem, aun_not, aun_neg, lenStr_str, lenSl_nils, lenSl_sl, lenSl_osl, aextract_tup, ld1uelem, idxStr_str, amin2uint, amax2uint, rangeStr_str, sliceStr_from, sliceStr_to, List.getElem?_cons_zero, List.getElem?_cons_succ, Option.map_some, Option.bind_some, Int.toNat_natCast, Int.toNat_zero, Int.le_refl, Bool.not_true, Bool.not_false, Bool.not_not, Bool.false_eq_true, if_true, if_false, decide_eq_true_eq, beq_self_eq_true, bool_ft, bool_tf, decide_true, decide_false, reduceCtorEq, cmpNil, cmpRes, boxCells, AV.known, AV.cells, Nat.zero_add, and_self, and_true, true_and, ite_self, forall_const, not_true_eq_false, not_false_eq_true, ld1uptr hg, e1, el, en, e3, sliceSl_from1, e2]
    exact h _ ((ExtO.refl [o] H).put (.inl (by simp)) _) ⟨g, get_put_self _ _ _⟩
theorem c_words_number (o : Nat) (w : Wds) (hw : WSmall w.l) {H : AH} (ho : o < H.next) (hs : IsWords H o w) {K : AV → AH → Prop}
    (h : ∀ H', ExtO [o] H H' → IsWords H' o (numberW w).2 → K (.int .i64 (numberW w).1) H') : r_script_words_number [.ptr o 0] H K := by
  simp only [r_script_words_number]
  refine c_words_next o w hw ho hs fun H1 hx1 hs1 => ?_
  obtain ⟨hw1, hl1⟩ := nextW_small hw
  refine c_script_Number _ (by omega) fun H2 hx2 => ?_
  have ho1 : o < H1.next := Nat.lt_of_lt_of_le ho hx1.next
  obtain ⟨g, hg⟩ := hs1.ext hx2 ho1
  have e1 : ([AV.sl g 1 ((nextW w).2.l.map .str), .bool (nextW w).2.bad])[1]? = some (.bool (nextW w).2.bad) := rfl
  have fin : ∀ b, b = (numberW w).2.bad → K (.int .i64 (numberW w).1) (H2.put o (.cells [.sl g 1 ((nextW w).2.l.map .str), .bool b])) := by
    rintro b rfl
    exact h _ ((hx1.trans (hx2.toO [o])).put (.inl (by simp)) _) ⟨g, get_put_self _ _ _⟩
  have est : ∀ b, ast 1 (.ptr o 1) (.bool b) H2 = some (H2.put o (.cells [.sl g 1 ((nextW w).2.l.map .str), .bool b])) := fun b => ast1uptr hg (i := 1) (v := .bool b) rfl (by simp)
  simp only [abin_i_add, abin_i_sub, abin_i_mul, abin_i_eql, abin_i_neq, abin_i_lss, abin_i_leq, abin_i_gtr, abin_i_geq, abin_s_eql, abin_s_neq, bnd_some, bnd_none, branch_bool, gwant_bool, gwant_nothing, aguard_some, wantE_some, pickV_bool, nilck_ptr, nilck_elem, aoff_ptr, aoff_elem, aun_not, aun_neg, lenStr_str, lenSl_nils, lenSl_sl, lenSl_osl, aextract_tup, ld1uelem, idxStr_str, amin2uint, amax2uint, rangeStr_str, sliceStr_from, sliceStr_to, List.getElem?_cons_zero, List.getElem?_cons_succ, Option.map_some, Option.bind_some, Int.toNat_natCast, Int.toNat_zero, Int.le_refl, Bool.not_true, Bool.not_false, Bool.not_not, Bool.false_eq_true, if_true, if_false, decide_eq_true_eq, beq_self_eq_true, bool_ft, bool_tf, decide_true, decide_false, reduceCtorEq, cmpNil, cmpRes, boxCells, AV.known, AV.cells, Nat.zero_add, and_self, and_true, true_and, ite_self, forall_const, not_true_eq_false, not_false_eq_true, ld1uptr hg, e1]
  cases hb : (nextW w).2.bad with
  | true =>
    simp only [abin_i_add, abin_i_sub, abin_i_mul, abin_i_eql, abin_i_neq, abin_i_lss, abin_i_leq, abin_i_gtr, abin_i_geq, abin_s_eql, abin_s_neq, bnd_some, bnd_none, branch_bool, gwant_bool, gwant_nothing, aguard_some, wantE_some, pickV_bool, nilck_ptr, nilck_elem, aoff_ptr, aoff_elem, aun_not, aun_neg, lenStr_str, lenSl_nils, lenSl_sl, lenSl_osl, aextract_tup, ld1uelem, idxStr_str, amin2uint, amax2uint, rangeStr_str, sliceStr_from, sliceStr_to, List.getElem?_cons_zero, List.getElem?_cons_succ, Option.map_some, Option.bind_some, Int.toNat_natCast, Int.toNat_zero, Int.le_refl, Bool.not_true, Bool.not_false, Bool.not_not, Bool.false_eq_true, if_true, if_false, decide_eq_true_eq, beq_self_eq_true, bool_ft, bool_tf, decide_true, decide_false, reduceCtorEq, cmpNil, cmpRes, boxCells, AV.known, AV.cells, Nat.zero_add, and_self, and_true, true_and, ite_self, forall_const, not_true_eq_false, not_false_eq_true, est]
    exact fin true (by simp [numberW, hb])
  | false =>
    simp only [abin_i_add, abin_i_sub, abin_i_mul, abin_i_eql, abin_i_neq, abin_i_lss, abin_i_leq, abin_i_gtr, abin_i_geq, abin_s_eql, abin_s_neq, bnd_some, bnd_none, branch_bool, gwant_bool, gwant_nothing, aguard_some, wantE_some, pickV_bool, nilck_ptr, nilck_elem, aoff_ptr, aoff_elem, aun_not, aun_neg, lenStr_str, lenSl_nils, lenSl_sl, lenSl_osl, aextract_tup, ld1uelem, idxStr_str, amin2uint, amax2uint, rangeStr_str, sliceStr_from, sliceStr_to, List.getElem?_cons_zero, List.getElem?_cons_succ, Option.map_some, Option.bind_some, Int.toNat_natCast, Int.toNat_zero, Int.le_refl, Bool.not_true, Bool.not_false, Bool.not_not, Bool.false_eq_true, if_true, if_false, decide_eq_true_eq, beq_self_eq_true, bool_ft, bool_tf, decide_true, decide_false, reduceCtorEq, cmpNil, cmpRes, boxCells, AV.known, AV.cells, Nat.zero_add, and_self, and_true, true_and, ite_self, forall_const, not_true_eq_false, not_false_eq_true, est]
    exact fin _ (by simp [numberW, hb])
theorem c_need_Of (a b : Nat) {H : AH} {K : AV → AH → Prop} (h : K (.cplx .f64 (fl (needOf a b).1) (fl (needOf a b).2)) H) : r_need_Of [.int .i64 a, .int .i64 b] H K := by
  have ea : decide ((a : Int) < 0) = false := by simp
  have eb : decide ((b : Int) < 0) = false := by simp
  unfold needOf at h
  by_cases h1 : a ≤ 100000
  · have e1 : decide ((a : Int) > 100000) = false := by simp; omega
    by_cases h2 : b ≤ 100000
    · have e2 : decide ((b : Int) > 100000) = false := by simp; omega
      rw [if_pos ⟨h1, h2⟩] at h
      simpa only [r_need_Of, abin_i_add, abin_i_sub, abin_i_mul, abin_i_eql, abin_i_neq, abin_i_lss, abin_i_leq, abin_i_gtr, abin_i_geq, abin_s_eql, abin_s_neq, bnd_some, bnd_none, branch_bool, gwant_bool, gwant_nothing, aguard_some, wantE_some, pickV_bool, nilck_ptr, nilck_elem, aoff_ptr, aoff_elem, aun_not, aun_neg, lenStr_str, lenSl_nils, lenSl_sl, lenSl_osl, aextract_tup, ld1uelem, idxStr_str, amin2uint, amax2uint, rangeStr_str, sliceStr_from, sliceStr_to, List.getElem?_cons_zero, List.getElem?_cons_succ, Option.map_some, Option.bind_some, Int.toNat_natCast, Int.toNat_zero, Int.le_refl, Bool.not_true, Bool.not_false, Bool.not_not, Bool.false_eq_true, if_true, if_false, decide_eq_true_eq, beq_self_eq_true, bool_ft, bool_tf, decide_true, decide_false, reduceCtorEq, cmpNil, cmpRes, boxCells, AV.known, AV.cells, Nat.zero_add, and_self, and_true, true_and, ite_self, forall_const, not_true_eq_false, not_false_eq_true, ea, eb, e1, e2, conv_fl, acplx] using h
    · have e2 : decide ((b : Int) > 100000) = true := by simp; omega
      rw [if_neg (fun h => h2 h.2), fl_zero] at h
      simpa only [r_need_Of, abin_i_add, abin_i_sub, abin_i_mul, abin_i_eql, abin_i_neq, abin_i_lss, abin_i_leq, abin_i_gtr, abin_i_geq, abin_s_eql, abin_s_neq, bnd_some, bnd_none, branch_bool, gwant_bool, gwant_nothing, aguard_some, wantE_some, pickV_bool, nilck_ptr, nilck_elem, aoff_ptr, aoff_elem, aun_not, aun_neg, lenStr_str, lenSl_nils, lenSl_sl, lenSl_osl, aextract_tup, ld1uelem, idxStr_str, amin2uint, amax2uint, rangeStr_str, sliceStr_from, sliceStr_to, List.getElem?_cons_zero, List.getElem?_cons_succ, Option.map_some, Option.bind_some, Int.toNat_natCast, Int.toNat_zero, Int.le_refl, Bool.not_true, Bool.not_false, Bool.not_not, Bool.false_eq_true, if_true, if_false, decide_eq_true_eq, beq_self_eq_true, bool_ft, bool_tf, decide_true, decide_false, reduceCtorEq, cmpNil, cmpRes, boxCells, AV.known, AV.cells, Nat.zero_add, and_self, and_true, true_and, ite_self, forall_const, not_true_eq_false, not_false_eq_true, ea, eb, e1, e2, conv_fl, acplx] using h
  · have e1 : decide ((a : Int) > 100000) = true := by simp; omega
    rw [if_neg (fun h => h1 h.1), fl_zero] at h
    simpa only [r_need_Of, abin_i_add, abin_i_sub, abin_i_mul, abin_i_eql, abin_i_neq, abin_i_lss, abin_i_leq, abin_i_gtr, abin_i_geq, abin_s_eql, abin_s_neq, bnd_some, bnd_none, branch_bool, gwant_bool, gwant_nothing, aguard_some, wantE_some, pickV_bool, nilck_ptr, nilck_elem, aoff_ptr, aoff_elem, aun_not, aun_neg, lenStr_str, lenSl_nils, lenSl_sl, lenSl_osl, aextract_tup, ld1uelem, idxStr_str, amin2uint, amax2uint, rangeStr_str, sliceStr_from, sliceStr_to, List.getElem?_cons_zero, List.getElem?_cons_succ, Option.map_some, Option.bind_some, Int.toNat_natCast, Int.toNat_zero, Int.le_refl, Bool.not_true, Bool.not_false, Bool.not_not, Bool.false_eq_true, if_true, if_false, decide_eq_true_eq, beq_self_eq_true, bool_ft, bool_tf, decide_true, decide_false, reduceCtorEq, cmpNil, cmpRes, boxCells, AV.known, AV.cells, Nat.zero_add, and_self, and_true, true_and, ite_self, forall_const, not_true_eq_false, not_false_eq_true, ea, eb, e1, conv_fl, acplx] using h
theorem IsWords.O {H H' : AH} {o : Nat} {w : Wds} {S : List Nat} (h : IsWords H o w) (hx : ExtO S H H') (ho : o < H.next) (hn : o ∉ S) : IsWords H' o w := by
  obtain ⟨g, hg⟩ := h
  exact ⟨g, hx.get_lt ho hn hg⟩
theorem encItem_cells (i : Item) : (encItem i).cells = [.str i.t, .cplx .f64 (fl i.a) (fl i.b)] := rfl
theorem flat_items (l : List Item) : (flat (l.map encItem)).all AV.one = true := flat_one fun x _ => rfl
theorem ldN_obj {H : AH} {o : Nat} {x : AV} {n : Nat} (h : H.get o = some (.cells x.cells)) (hx : x = .agg x.cells) (hn : x.cells.length = n) : ldN n (.ptr o 0) H = some x := by
  subst hn
  rw [ldN_all h, ← hx]
theorem c_items_loop (o : Nat) (needs : Bool) {H0 : AH} (ho : o < H0.next) {K : AV → AH → Prop} : ∀ (n : Nat) (w : Wds), w.l.length = n → WSmall w.l → ∀ (done : List Item) (v : AV) (H : AH), done.length + n ≤ 1000000000 → IsGrow 2 encItem H0 v done H → IsWords H o w → ExtO [o] H0 H →
    (∀ v' H', IsGrow 2 encItem H0 v' (done ++ (itemsW needs w).1) H' → IsWords H' o (itemsW needs w).2 → ExtO [o] H0 H' → K v' H') → LoopP (r_script_words_items_p56 K) [.ptr o 0, .bool needs, v] H := by
  intro n
  induction n using Nat.strongRecOn with
  | ind n ih =>
    intro w hn hw done v H hd hg hs hx h
    refine .fold ?_
    obtain ⟨g, hgo⟩ := hs
    have oH : o < H.next := Nat.lt_of_lt_of_le ho hx.next
    have e0 : ([AV.sl g 1 (w.l.map .str), .bool w.bad])[0]? = some (.sl g 1 (w.l.map .str)) := rfl
    have e1 : ([AV.sl g 1 (w.l.map .str), .bool w.bad])[1]? = some (.bool w.bad) := rfl
    have epos : decide (((w.l.length : Nat) : Int) > 0) = decide (0 < w.l.length) := by rw [decide_eq_decide]; omega
    rw [itemsW_eq] at h
    simp only [r_script_words_items_p56, abin_i_add, abin_i_sub, abin_i_mul, abin_i_eql, abin_i_neq, abin_i_lss, abin_i_leq, abin_i_gtr, abin_i_geq, abin_s_eql, abin_s_neq, bnd_some, bnd_none, branch_bool, gwant_bool, gwant_nothing, aguard_some, wantE_some, pickV_bool, nilck_ptr, nilck_elem, aoff_ptr, aoff_elem, aun_not, aun_neg, lenStr_str, lenSl_nils, lenSl_sl, lenSl_osl, aextract_tup, ld1uelem, idxStr_str, amin2uint, amax2uint, rangeStr_str, sliceStr_from, sliceStr_to, List.getElem?_cons_zero, List.getElem?_cons_succ, Option.map_some, Option.bind_some, Int.toNat_natCast, Int.toNat_zero, Int.le_refl, Bool.not_true, Bool.not_false, Bool.not_not, Bool.false_eq_true, if_true, if_false, decide_eq_true_eq, beq_self_eq_true, bool_ft, bool_tf, decide_true, decide_false, reduceCtorEq, cmpNil, cmpRes, boxCells, AV.known, AV.cells, Nat.zero_add, and_self, and_true, true_and, ite_self, forall_const, not_true_eq_false, not_false_eq_true, ld1uptr hgo, e0, List.length_map, epos]
    by_cases hl : 0 < w.l.length
    · cases hb : w.bad with
      | true =>
        have hneg : ¬ (0 < w.l.length ∧ w.bad = false) := by simp [hb]
        rw [dif_neg hneg] at h
        simp only [hl, abin_i_add, abin_i_sub, abin_i_mul, abin_i_eql, abin_i_neq, abin_i_lss, abin_i_leq, abin_i_gtr, abin_i_geq, abin_s_eql, abin_s_neq, bnd_some, bnd_none, branch_bool, gwant_bool, gwant_nothing, aguard_some, wantE_some, pickV_bool, nilck_ptr, nilck_elem, aoff_ptr, aoff_elem, aun_not, aun_neg, lenStr_str, lenSl_nils, lenSl_sl, lenSl_osl, aextract_tup, ld1uelem, idxStr_str, amin2uint, amax2uint, rangeStr_str, sliceStr_from, sliceStr_to, List.getElem?_cons_zero, List.getElem?_cons_succ, Option.map_some, Option.bind_some, Int.toNat_natCast, Int.toNat_zero, Int.le_refl, Bool.not_true, Bool.not_false, Bool.not_not, Bool.false_eq_true, if_true, if_false, decide_eq_true_eq, beq_self_eq_true, bool_ft, bool_tf, decide_true, decide_false, reduceCtorEq, cmpNil, cmpRes, boxCells, AV.known, AV.cells, Nat.zero_add, and_self, and_true, true_and, ite_self, forall_const, not_true_eq_false, not_false_eq_true, ld1uptr hgo, e1, hb]
        have := h v H (by simpa using hg) ⟨g, hgo⟩ hx
        simpa using this
      | false =>
        rw [dif_pos ⟨hl, hb⟩] at h
        simp only at h
        simp only [hl, abin_i_add, abin_i_sub, abin_i_mul, abin_i_eql, abin_i_neq, abin_i_lss, abin_i_leq, abin_i_gtr, abin_i_geq, abin_s_eql, abin_s_neq, bnd_some, bnd_none, branch_bool, gwant_bool, gwant_nothing, aguard_some, wantE_some, pickV_bool, nilck_ptr, nilck_elem, aoff_ptr, aoff_elem, aun_not, aun_neg, lenStr_str, lenSl_nils, lenSl_sl, lenSl_osl, aextract_tup, ld1uelem, idxStr_str, amin2uint, amax2uint, rangeStr_str, sliceStr_from, sliceStr_to, List.getElem?_cons_zero, List.getElem?_cons_succ, Option.map_some, Option.bind_some, Int.toNat_natCast, Int.toNat_zero, Int.le_refl, Bool.not_true, Bool.not_false, Bool.not_not, Bool.false_eq_true, if_true, if_false, decide_eq_true_eq, beq_self_eq_true, bool_ft, bool_tf, decide_true, decide_false, reduceCtorEq, cmpNil, cmpRes, boxCells, AV.known, AV.cells, Nat.zero_add, and_self, and_true, true_and, ite_self, forall_const, not_true_eq_false, not_false_eq_true, ld1uptr hgo, e1, hb]
        refine c_words_next o w hw oH ⟨g, hgo⟩ fun H1 hx1 hs1 => ?_
        obtain ⟨hw1, _⟩ := nextW_small hw
        have oH1 : o < H1.next := Nat.lt_of_lt_of_le oH hx1.next
        have est : astruct [(0, 1), (1, 1)] [.str [], .cplx .f64 0 0] [(0, .str (nextW w).1)] = some (.agg [.str (nextW w).1, .cplx .f64 0 0]) := rfl
        have hput : ast 2 (.ptr H1.next 0) (.agg [.str (nextW w).1, .cplx .f64 0 0]) (H1.add (.cells [.str [], .cplx .f64 0 0])) = some (H1.add (.cells [.str (nextW w).1, .cplx .f64 0 0])) := by
          have := ast_all (cs := [.str (nextW w).1, .cplx .f64 0 0]) (get_add_self H1 (.cells [.str [], .cplx .f64 0 0])) rfl rfl
          rw [add_put] at this; exact this
        simp only [est, bnd_some, hput]
        have hit := itemW_lt needs w hl
        have hsm := itemW_small (needs := needs) hw
        -- what comes behind an item's reading
        have back : ∀ H2, ExtO [o] H0 H2 → H1.next < H2.next → IsWords H2 o (itemW needs w).2 → IsGrow 2 encItem H0 v done H2 → H2.get H1.next = some (.cells (encItem (itemW needs w).1).cells) → 
            r_script_words_items_p907 K (LoopP (r_script_words_items_p56 K)) (.ptr o 0) (.bool needs) v (.ptr H1.next 0) H2 := by
          intro H2 hx2 hlt hs2 hg2 hobj
          have hld := ldN_obj (x := encItem (itemW needs w).1) (n := 2) hobj rfl rfl
          simp only [r_script_words_items_p907, hld, bnd_some, buildSl_one 2 (encItem (itemW needs w).1) rfl rfl]
          refine hg2.appG hx2.next (xs := [(itemW needs w).1]) (.inr ⟨_, rfl⟩) (by simp; omega) (by simp; omega) (flat_items _) fun v' H3 hg3 hget3 hn3 ht3 => ?_
          have hx3 : ExtO [o] H0 H3 := ⟨Nat.le_trans hx2.next hn3, fun o' ho' hn' => by rw [hget3]; exact hx2.get o' ho' hn', fun c hc => (ht3 c hc).trans (hx2.tok c hc)⟩
          have hs3 : IsWords H3 o (itemW needs w).2 := by
            obtain ⟨g', hg'⟩ := hs2
            exact ⟨g', by rw [hget3]; exact hg'⟩
          refine ih _ (by omega) (itemW needs w).2 rfl hsm.1 (done ++ [(itemW needs w).1]) v' H3 (by simp; omega) hg3 hs3 hx3 fun v'' H'' a b c => ?_
          exact h v'' H'' (by simpa using a) b c
        have hx01 : ExtO [o] H0 H1 := hx.trans hx1
        have hobj1 := get_add_self H1 (.cells [.str (nextW w).1, .cplx .f64 0 0])
        have hg1 : IsGrow 2 encItem H0 v done (H1.add (.cells [.str (nextW w).1, .cplx .f64 0 0])) := hg.mono (by have := hx1.next; simp; omega) (fun c hc => hx1.tok c hc)
        have hs1' : IsWords (H1.add (.cells [.str (nextW w).1, .cplx .f64 0 0])) o (nextW w).2 := hs1.ext ((Ext.refl H1).add _) oH1
        cases hnd : needs with
        | false =>
          subst hnd
          simp only [abin_i_add, abin_i_sub, abin_i_mul, abin_i_eql, abin_i_neq, abin_i_lss, abin_i_leq, abin_i_gtr, abin_i_geq, abin_s_eql, abin_s_neq, bnd_some, bnd_none, branch_bool, gwant_bool, gwant_nothing, aguard_some, wantE_some, pickV_bool, nilck_ptr, nilck_elem, aoff_ptr, aoff_elem, aun_not, aun_neg, lenStr_str, lenSl_nils, lenSl_sl, lenSl_osl, aextract_tup, ld1uelem, idxStr_str, amin2uint, amax2uint, rangeStr_str, sliceStr_from, sliceStr_to, List.getElem?_cons_zero, List.getElem?_cons_succ, Option.map_some, Option.bind_some, Int.toNat_natCast, Int.toNat_zero, Int.le_refl, Bool.not_true, Bool.not_false, Bool.not_not, Bool.false_eq_true, if_true, if_false, decide_eq_true_eq, beq_self_eq_true, bool_ft, bool_tf, decide_true, decide_false, reduceCtorEq, cmpNil, cmpRes, boxCells, AV.known, AV.cells, Nat.zero_add, and_self, and_true, true_and, ite_self, forall_const, not_true_eq_false, not_false_eq_true]
          refine back _ (hx01.add _) (by simp) ?_ hg1 ?_
          · simpa [itemW] using hs1'
          · rw [hobj1, encItem_cells]
            simp [itemW, fl_zero]
        | true =>
          subst hnd
          simp only [abin_i_add, abin_i_sub, abin_i_mul, abin_i_eql, abin_i_neq, abin_i_lss, abin_i_leq, abin_i_gtr, abin_i_geq, abin_s_eql, abin_s_neq, bnd_some, bnd_none, branch_bool, gwant_bool, gwant_nothing, aguard_some, wantE_some, pickV_bool, nilck_ptr, nilck_elem, aoff_ptr, aoff_elem, aun_not, aun_neg, lenStr_str, lenSl_nils, lenSl_sl, lenSl_osl, aextract_tup, ld1uelem, idxStr_str, amin2uint, amax2uint, rangeStr_str, sliceStr_from, sliceStr_to, List.getElem?_cons_zero, List.getElem?_cons_succ, Option.map_some, Option.bind_some, Int.toNat_natCast, Int.toNat_zero, Int.le_refl, Bool.not_true, Bool.not_false, Bool.not_not, Bool.false_eq_true, if_true, if_false, decide_eq_true_eq, beq_self_eq_true, bool_ft, bool_tf, decide_true, decide_false, reduceCtorEq, cmpNil, cmpRes, boxCells, AV.known, AV.cells, Nat.zero_add, and_self, and_true, true_and, ite_self, forall_const, not_true_eq_false, not_false_eq_true]
          refine c_words_number o _ hw1 (by simp; omega) hs1' fun H3 hx3 hs3 => ?_
          obtain ⟨hw3, hl3⟩ := numberW_small hw1
          refine c_words_number o _ hw3 (by have := hx3.next; simp at this; omega) hs3 fun H4 hx4 hs4 => ?_
          obtain ⟨hw4, hl4⟩ := numberW_small hw3
          refine c_need_Of _ _ ?_
          have hx34 := hx3.trans hx4
          have hobj4 : H4.get H1.next = some (.cells [.str (nextW w).1, .cplx .f64 0 0]) := hx34.get_lt (by simp) (by simp; omega) hobj1
          have est2 := ast1uptr hobj4 (i := 1) (v := .cplx .f64 (fl (needOf (numberW (nextW w).2).1 (numberW (numberW (nextW w).2).2).1).1) (fl (needOf (numberW (nextW w).2).1 (numberW (numberW (nextW w).2).2).1).2)) rfl (by simp)
          simp only [abin_i_add, abin_i_sub, abin_i_mul, abin_i_eql, abin_i_neq, abin_i_lss, abin_i_leq, abin_i_gtr, abin_i_geq, abin_s_eql, abin_s_neq, bnd_some, bnd_none, branch_bool, gwant_bool, gwant_nothing, aguard_some, wantE_some, pickV_bool, nilck_ptr, nilck_elem, aoff_ptr, aoff_elem, aun_not, aun_neg, lenStr_str, lenSl_nils, lenSl_sl, lenSl_osl, aextract_tup, ld1uelem, idxStr_str, amin2uint, amax2uint, rangeStr_str, sliceStr_from, sliceStr_to, List.getElem?_cons_zero, List.getElem?_cons_succ, Option.map_some, Option.bind_some, Int.toNat_natCast, Int.toNat_zero, Int.le_refl, Bool.not_true, Bool.not_false, Bool.not_not, Bool.false_eq_true, if_true, if_false, decide_eq_true_eq, beq_self_eq_true, bool_ft, bool_tf, decide_true, decide_false, reduceCtorEq, cmpNil, cmpRes, boxCells, AV.known, AV.cells, Nat.zero_add, and_self, and_true, true_and, ite_self, forall_const, not_true_eq_false, not_false_eq_true, est2]
          have oH4 : o ≠ H1.next := by omega
          refine back _ (((hx01.add _).trans hx34).put (.inr (by have := hx01.next; omega)) _) (by have := hx34.next; simp at this ⊢; omega) ?_ (hg1.mono (by simpa using hx34.next) (fun c hc => hx34.tok c hc)) ?_
          · obtain ⟨g', hg'⟩ := hs4
            exact ⟨g', by rw [get_put_ne _ _ oH4]; exact hg'⟩
          · rw [get_put_self, encItem_cells]; rfl
    · have hneg : ¬ (0 < w.l.length ∧ w.bad = false) := fun h => hl h.1
      rw [dif_neg hneg] at h
      simp only [hl, abin_i_add, abin_i_sub, abin_i_mul, abin_i_eql, abin_i_neq, abin_i_lss, abin_i_leq, abin_i_gtr, abin_i_geq, abin_s_eql, abin_s_neq, bnd_some, bnd_none, branch_bool, gwant_bool, gwant_nothing, aguard_some, wantE_some, pickV_bool, nilck_ptr, nilck_elem, aoff_ptr, aoff_elem, aun_not, aun_neg, lenStr_str, lenSl_nils, lenSl_sl, lenSl_osl, aextract_tup, ld1uelem, idxStr_str, amin2uint, amax2uint, rangeStr_str, sliceStr_from, sliceStr_to, List.getElem?_cons_zero, List.getElem?_cons_succ, Option.map_some, Option.bind_some, Int.toNat_natCast, Int.toNat_zero, Int.le_refl, Bool.not_true, Bool.not_false, Bool.not_not, Bool.false_eq_true, if_true, if_false, decide_eq_true_eq, beq_self_eq_true, bool_ft, bool_tf, decide_true, decide_false, reduceCtorEq, cmpNil, cmpRes, boxCells, AV.known, AV.cells, Nat.zero_add, and_self, and_true, true_and, ite_self, forall_const, not_true_eq_false, not_false_eq_true]
      have := h v H (by simpa using hg) ⟨g, hgo⟩ hx
      simpa using this
end Go.Va
