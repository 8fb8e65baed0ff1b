/-
  Contracts: a step of a line's words.
-/
import Derived.Test.YtfldcobcnlgapaaDoorCtStep
set_option linter.unusedVariables false
set_option linter.unusedSimpArgs false
set_option maxRecDepth 100000
namespace Go.Va
def okW (w : Wds) : Bool := !w.bad && w.l.isEmpty
def stepS (l : List Bs) : Step × Bool :=
  let w : Wds := ⟨l.tail, false⟩
  let h := l.headD []
  if h = wTick then let r := numberW w; ({ kind := 2, n := r.1 }, okW r.2)
  else if h = wFuse then let r := numberW w; ({ kind := 3, n := r.1 }, okW r.2)
  else if h = wCrash then
    let r := numberW w
    if 0 < r.2.l.length then let q := numberW r.2; ({ kind := 4, n := r.1, m := q.1 }, okW q.2)
    else ({ kind := 4, n := r.1, m := -1 }, okW r.2)
  else match kindOf h with
    | none => ({}, false)
    | some k => let r := fieldsW (fieldsOf k) w { kind := k }; ({ kind := 1, msg := r.2 }, okW r.1 && checkM r.2)

theorem length_stepCells (s : Step) (iv : AV) : (stepCells s iv).length = 12 := rfl
theorem stepCells_one (s : Step) {iv : AV} (h : iv.one = true) : (stepCells s iv).all AV.one = true := by
  have e : (iv.one && true) = true := by rw [h]; rfl
  show (true && (true && (true && (true && (true && (true && (true && (true && (true && (iv.one && (true && (true && true)))))))))))) = true
  rw [h]; rfl
theorem ldN12 {H : AH} {p : Nat} {cs : List AV} (h : H.get p = some (.cells cs)) (hl : cs.length = 12) : ldN 12 (.ptr p 0) H = some (.agg cs) := by rw [← hl]; exact ldN_all h
theorem ast12 {H : AH} {p : Nat} {cs ys : List AV} (h : H.get p = some (.cells ys)) (hy : ys.length = 12) (hl : cs.length = 12) (h1 : cs.all AV.one = true) : ast 12 (.ptr p 0) (.agg cs) H = some (H.put p (.cells cs)) := by
  rw [← hl]; exact ast_all h (by rw [hl, hy]) h1
theorem lenW (g : Grow) (l : List Bs) : lenSl (.sl g 1 (l.map .str)) = some (.int .i64 l.length) := by simp
theorem len0 (l : List Bs) : ((((l.map AV.str).length : Nat) : Int) == 0) = l.isEmpty := by
  cases l with
  | nil => rfl
  | cons a l => simp only [List.map_cons, List.length_cons, List.isEmpty_cons, beq_eq_false_iff_ne, ne_eq]; omega
/-- what stands in the words' object -/
theorem words_at {H : AH} {o : Nat} {w : Wds} (h : IsWords H o w) : ∃ g, ld1 (.ptr o 0) H = some (.sl g 1 (w.l.map .str)) ∧ ld1 (.ptr o 1) H = some (.bool w.bad) := by
  obtain ⟨g, hg⟩ := h
  exact ⟨g, by rw [ld1uptr hg]; rfl, by rw [ld1uptr hg]; rfl⟩
theorem IsWords.putO {H : AH} {o p : Nat} {w : Wds} (h : IsWords H o w) (hn : o ≠ p) (x : AObj) : IsWords (H.put p x) o w := by
  obtain ⟨g, hg⟩ := h
  exact ⟨g, by rw [get_put_ne _ _ hn]; exact hg⟩

theorem c_step_fin (o p r : Nat) (w : Wds) (s : Step) {iv : AV} (hiv : iv.one = true) {H : AH} (hs : IsWords H o w) (hor : o ≠ r) (hpr : p ≠ r) (hobj : H.get p = some (.cells (stepCells s iv))) {rc : List AV} (hr : H.get r = some (.cells rc)) (hrl : rc.length = 12) {K : AV → AH → Prop}
    (h : ∀ H', ExtO [r] H H' → K (.tup [.agg (stepCells s iv), .bool (okW w)]) H') : r_script_step_p15099 K (.ptr r 0) (.ptr o 0) (.ptr p 0) H := by
  obtain ⟨g, e0, e1⟩ := words_at hs
  have a1 := ast12 (cs := stepCells s iv) hr hrl rfl (stepCells_one s hiv)
  have hs2 := hs.putO hor (.cells (stepCells s iv))
  obtain ⟨g2, f0, f1⟩ := words_at hs2
  have hgg : g2 = g := by
    obtain ⟨g', hg'⟩ := hs
    have h1 : ld1 (.ptr o 0) H = some (.sl g' 1 (w.l.map .str)) := by rw [ld1uptr hg']; rfl
    have h2 : ld1 (.ptr o 0) (H.put r (.cells (stepCells s iv))) = some (.sl g' 1 (w.l.map .str)) := by rw [ld1uptr (show (H.put r (.cells (stepCells s iv))).get o = _ by rw [get_put_ne _ _ hor]; exact hg')]; rfl
    rw [h1] at e0; rw [h2] at f0
    cases e0; cases f0; rfl
  subst hgg
  have r2 := ldN12 (get_put_self H r (.cells (stepCells s iv))) rfl
  have fin := h (H.put r (.cells (stepCells s iv))) ((ExtO.refl [r] H).put (o := r) (.inl (by simp)) (.cells (stepCells s iv)))
  simp only [r_script_step_p15099, abin_i_add, abin_i_sub, abin_i_mul, abin_i_eql, abin_i_neq, abin_i_lss, abin_i_leq, abin_i_gtr, abin_i_geq, abin_s_eql, abin_s_neq, bnd_some, bnd_none, branch_bool, gwant_bool, gwant_nothing, aguard_some, wantE_some, pickV_bool, nilck_ptr, nilck_elem, aoff_ptr, aoff_elem, aun_not, aun_neg, lenStr_str, lenSl_nils, lenSl_sl, lenSl_osl, aextract_tup, ld1uelem, idxStr_str, amin2uint, amax2uint, rangeStr_str, sliceStr_from, sliceStr_to, List.getElem?_cons_zero, List.getElem?_cons_succ, Option.map_some, Option.bind_some, Int.toNat_natCast, Int.toNat_zero, Int.le_refl, Bool.not_true, Bool.not_false, Bool.not_not, Bool.false_eq_true, if_true, if_false, decide_eq_true_eq, beq_self_eq_true, bool_ft, bool_tf, decide_true, decide_false, reduceCtorEq, cmpNil, cmpRes, boxCells, AV.known, AV.cells, Nat.zero_add, and_self, and_true, true_and, ite_self, forall_const, not_true_eq_false, not_false_eq_true, ldN12 hobj rfl, e1]
  unfold okW at fin
  cases hb : w.bad with
  | true =>
    rw [hb] at fin
    simpa only [abin_i_add, abin_i_sub, abin_i_mul, abin_i_eql, abin_i_neq, abin_i_lss, abin_i_leq, abin_i_gtr, abin_i_geq, abin_s_eql, abin_s_neq, bnd_some, bnd_none, branch_bool, gwant_bool, gwant_nothing, aguard_some, wantE_some, pickV_bool, nilck_ptr, nilck_elem, aoff_ptr, aoff_elem, aun_not, aun_neg, lenStr_str, lenSl_nils, lenSl_sl, lenSl_osl, aextract_tup, ld1uelem, idxStr_str, amin2uint, amax2uint, rangeStr_str, sliceStr_from, sliceStr_to, List.getElem?_cons_zero, List.getElem?_cons_succ, Option.map_some, Option.bind_some, Int.toNat_natCast, Int.toNat_zero, Int.le_refl, Bool.not_true, Bool.not_false, Bool.not_not, Bool.false_eq_true, if_true, if_false, decide_eq_true_eq, beq_self_eq_true, bool_ft, bool_tf, decide_true, decide_false, reduceCtorEq, cmpNil, cmpRes, boxCells, AV.known, AV.cells, Nat.zero_add, and_self, and_true, true_and, ite_self, forall_const, not_true_eq_false, not_false_eq_true, a1, r2, forall_const, not_true_eq_false, Bool.false_and, false_implies] using fin
  | false =>
    rw [hb] at fin
    simp only [abin_i_add, abin_i_sub, abin_i_mul, abin_i_eql, abin_i_neq, abin_i_lss, abin_i_leq, abin_i_gtr, abin_i_geq, abin_s_eql, abin_s_neq, bnd_some, bnd_none, branch_bool, gwant_bool, gwant_nothing, aguard_some, wantE_some, pickV_bool, nilck_ptr, nilck_elem, aoff_ptr, aoff_elem, aun_not, aun_neg, lenStr_str, lenSl_nils, lenSl_sl, lenSl_osl, aextract_tup, ld1uelem, idxStr_str, amin2uint, amax2uint, rangeStr_str, sliceStr_from, sliceStr_to, List.getElem?_cons_zero, List.getElem?_cons_succ, Option.map_some, Option.bind_some, Int.toNat_natCast, Int.toNat_zero, Int.le_refl, Bool.not_true, Bool.not_false, Bool.not_not, Bool.false_eq_true, if_true, if_false, decide_eq_true_eq, beq_self_eq_true, bool_ft, bool_tf, decide_true, decide_false, reduceCtorEq, cmpNil, cmpRes, boxCells, AV.known, AV.cells, Nat.zero_add, and_self, and_true, true_and, ite_self, forall_const, not_true_eq_false, not_false_eq_true, e0, len0, a1, r2, f0]
    simpa only [abin_i_add, abin_i_sub, abin_i_mul, abin_i_eql, abin_i_neq, abin_i_lss, abin_i_leq, abin_i_gtr, abin_i_geq, abin_s_eql, abin_s_neq, bnd_some, bnd_none, branch_bool, gwant_bool, gwant_nothing, aguard_some, wantE_some, pickV_bool, nilck_ptr, nilck_elem, aoff_ptr, aoff_elem, aun_not, aun_neg, lenStr_str, lenSl_nils, lenSl_sl, lenSl_osl, aextract_tup, ld1uelem, idxStr_str, amin2uint, amax2uint, rangeStr_str, sliceStr_from, sliceStr_to, List.getElem?_cons_zero, List.getElem?_cons_succ, Option.map_some, Option.bind_some, Int.toNat_natCast, Int.toNat_zero, Int.le_refl, Bool.not_true, Bool.not_false, Bool.not_not, Bool.false_eq_true, if_true, if_false, decide_eq_true_eq, beq_self_eq_true, bool_ft, bool_tf, decide_true, decide_false, reduceCtorEq, cmpNil, cmpRes, boxCells, AV.known, AV.cells, Nat.zero_add, and_self, and_true, true_and, ite_self, forall_const, not_true_eq_false, not_false_eq_true, Bool.true_and] using fin
theorem c_step_loop (o p r it : Nat) (fs : Bs) (hfs : ∀ c ∈ fs, c.toNat < 128) {H0 : AH} (ho : o < H0.next) (hp : p < H0.next) (hr : r < H0.next) (hit : it < H0.next) (hop : o ≠ p) (hor : o ≠ r) (hpr : p ≠ r) (hoi : o ≠ it) (hpi : p ≠ it) (hri : r ≠ it) {K : AV → AH → Prop} :
    ∀ (rest : Bs) (pos : Nat) (w : Wds) (s : Step) (iv : AV) (H : AH), fs.drop pos = rest → WSmall w.l → MsgSmall s.msg → H0.next ≤ H.next → IsWords H o w → IsItems iv s.msg.items → H.get p = some (.cells (stepCells s iv)) → (∃ rc, H.get r = some (.cells rc) ∧ rc.length = 12) → H.get it = some (.sIter fs pos) → ExtO [o, p, it] H0 H →
      (∀ H' iv', ExtO [o, p, r, it] H0 H' → IsItems iv' (fieldsW rest w s.msg).2.items → K (.tup [.agg (stepCells { s with msg := (fieldsW rest w s.msg).2 } iv'), .bool (okW (fieldsW rest w s.msg).1 && checkM (fieldsW rest w s.msg).2)]) H') →
      LoopP (r_script_step_p2036 K) [.ptr r 0, .ptr o 0, .ptr p 0, .iter it] H
  | [], pos, w, s, iv, H, hd, hw, hm, hn, hs, hiv, hobj, hrc, hiter, hx, h => by
    refine .fold ?_
    have hl : fs.length ≤ pos := by simpa using hd
    obtain ⟨rc, hrg, hrl⟩ := hrc
    obtain ⟨g, e0, e1⟩ := words_at hs
    simp only [fieldsW] at h
    have hsub : ∀ x ∈ [o, p, it], x ∈ [o, p, r, it] := by simp
    simp only [r_script_step_p2036, nextStr_end hiter hl, abin_i_add, abin_i_sub, abin_i_mul, abin_i_eql, abin_i_neq, abin_i_lss, abin_i_leq, abin_i_gtr, abin_i_geq, abin_s_eql, abin_s_neq, bnd_some, bnd_none, branch_bool, gwant_bool, gwant_nothing, aguard_some, wantE_some, pickV_bool, nilck_ptr, nilck_elem, aoff_ptr, aoff_elem, aun_not, aun_neg, lenStr_str, lenSl_nils, lenSl_sl, lenSl_osl, aextract_tup, ld1uelem, idxStr_str, amin2uint, amax2uint, rangeStr_str, sliceStr_from, sliceStr_to, List.getElem?_cons_zero, List.getElem?_cons_succ, Option.map_some, Option.bind_some, Int.toNat_natCast, Int.toNat_zero, Int.le_refl, Bool.not_true, Bool.not_false, Bool.not_not, Bool.false_eq_true, if_true, if_false, decide_eq_true_eq, beq_self_eq_true, bool_ft, bool_tf, decide_true, decide_false, reduceCtorEq, cmpNil, cmpRes, boxCells, AV.known, AV.cells, Nat.zero_add, and_self, and_true, true_and, ite_self, forall_const, not_true_eq_false, not_false_eq_true, ldN12 hobj rfl, e1]
    have a1 := ast12 (cs := stepCells s iv) hrg hrl rfl (stepCells_one s hiv.one)
    have r2 := ldN12 (get_put_self H r (.cells (stepCells s iv))) rfl
    have fin := h (H.put r (.cells (stepCells s iv))) iv ((hx.mono hsub).put (o := r) (.inl (by simp)) _) hiv
    have e9 : (stepCells s iv).drop 1 = msgCells s.msg iv ++ [.int .i64 s.n, .int .i64 s.m] := rfl
    have hld9 : ldN 9 (.ptr p 1) H = some (.agg (msgCells s.msg iv)) := by
      rw [ldN_ptr hobj 9 1 (by show 1 + 9 ≤ 12; omega), e9]; rfl
    unfold okW at fin
    cases hb : w.bad with
    | true =>
      rw [hb] at fin
      simp only [Bool.not_true, Bool.false_and] at fin
      simpa only [abin_i_add, abin_i_sub, abin_i_mul, abin_i_eql, abin_i_neq, abin_i_lss, abin_i_leq, abin_i_gtr, abin_i_geq, abin_s_eql, abin_s_neq, bnd_some, bnd_none, branch_bool, gwant_bool, gwant_nothing, aguard_some, wantE_some, pickV_bool, nilck_ptr, nilck_elem, aoff_ptr, aoff_elem, aun_not, aun_neg, lenStr_str, lenSl_nils, lenSl_sl, lenSl_osl, aextract_tup, ld1uelem, idxStr_str, amin2uint, amax2uint, rangeStr_str, sliceStr_from, sliceStr_to, List.getElem?_cons_zero, List.getElem?_cons_succ, Option.map_some, Option.bind_some, Int.toNat_natCast, Int.toNat_zero, Int.le_refl, Bool.not_true, Bool.not_false, Bool.not_not, Bool.false_eq_true, if_true, if_false, decide_eq_true_eq, beq_self_eq_true, bool_ft, bool_tf, decide_true, decide_false, reduceCtorEq, cmpNil, cmpRes, boxCells, AV.known, AV.cells, Nat.zero_add, and_self, and_true, true_and, ite_self, forall_const, not_true_eq_false, not_false_eq_true, ldN12 hobj rfl, a1, r2] using fin
    | false =>
      rw [hb] at fin
      simp only [Bool.not_false, Bool.true_and] at fin
      simp only [abin_i_add, abin_i_sub, abin_i_mul, abin_i_eql, abin_i_neq, abin_i_lss, abin_i_leq, abin_i_gtr, abin_i_geq, abin_s_eql, abin_s_neq, bnd_some, bnd_none, branch_bool, gwant_bool, gwant_nothing, aguard_some, wantE_some, pickV_bool, nilck_ptr, nilck_elem, aoff_ptr, aoff_elem, aun_not, aun_neg, lenStr_str, lenSl_nils, lenSl_sl, lenSl_osl, aextract_tup, ld1uelem, idxStr_str, amin2uint, amax2uint, rangeStr_str, sliceStr_from, sliceStr_to, List.getElem?_cons_zero, List.getElem?_cons_succ, Option.map_some, Option.bind_some, Int.toNat_natCast, Int.toNat_zero, Int.le_refl, Bool.not_true, Bool.not_false, Bool.not_not, Bool.false_eq_true, if_true, if_false, decide_eq_true_eq, beq_self_eq_true, bool_ft, bool_tf, decide_true, decide_false, reduceCtorEq, cmpNil, cmpRes, boxCells, AV.known, AV.cells, Nat.zero_add, and_self, and_true, true_and, ite_self, forall_const, not_true_eq_false, not_false_eq_true, e0, len0]
      cases hemp : w.l.isEmpty with
      | false =>
        rw [hemp] at fin
        simp only [Bool.false_and] at fin
        simpa only [abin_i_add, abin_i_sub, abin_i_mul, abin_i_eql, abin_i_neq, abin_i_lss, abin_i_leq, abin_i_gtr, abin_i_geq, abin_s_eql, abin_s_neq, bnd_some, bnd_none, branch_bool, gwant_bool, gwant_nothing, aguard_some, wantE_some, pickV_bool, nilck_ptr, nilck_elem, aoff_ptr, aoff_elem, aun_not, aun_neg, lenStr_str, lenSl_nils, lenSl_sl, lenSl_osl, aextract_tup, ld1uelem, idxStr_str, amin2uint, amax2uint, rangeStr_str, sliceStr_from, sliceStr_to, List.getElem?_cons_zero, List.getElem?_cons_succ, Option.map_some, Option.bind_some, Int.toNat_natCast, Int.toNat_zero, Int.le_refl, Bool.not_true, Bool.not_false, Bool.not_not, Bool.false_eq_true, if_true, if_false, decide_eq_true_eq, beq_self_eq_true, bool_ft, bool_tf, decide_true, decide_false, reduceCtorEq, cmpNil, cmpRes, boxCells, AV.known, AV.cells, Nat.zero_add, and_self, and_true, true_and, ite_self, forall_const, not_true_eq_false, not_false_eq_true, ldN12 hobj rfl, a1, r2] using fin
      | true =>
        simp only [abin_i_add, abin_i_sub, abin_i_mul, abin_i_eql, abin_i_neq, abin_i_lss, abin_i_leq, abin_i_gtr, abin_i_geq, abin_s_eql, abin_s_neq, bnd_some, bnd_none, branch_bool, gwant_bool, gwant_nothing, aguard_some, wantE_some, pickV_bool, nilck_ptr, nilck_elem, aoff_ptr, aoff_elem, aun_not, aun_neg, lenStr_str, lenSl_nils, lenSl_sl, lenSl_osl, aextract_tup, ld1uelem, idxStr_str, amin2uint, amax2uint, rangeStr_str, sliceStr_from, sliceStr_to, List.getElem?_cons_zero, List.getElem?_cons_succ, Option.map_some, Option.bind_some, Int.toNat_natCast, Int.toNat_zero, Int.le_refl, Bool.not_true, Bool.not_false, Bool.not_not, Bool.false_eq_true, if_true, if_false, decide_eq_true_eq, beq_self_eq_true, bool_ft, bool_tf, decide_true, decide_false, reduceCtorEq, cmpNil, cmpRes, boxCells, AV.known, AV.cells, Nat.zero_add, and_self, and_true, true_and, ite_self, forall_const, not_true_eq_false, not_false_eq_true, hld9]
        refine c_message_Check s.msg hm hiv fun H1 hx1 => ?_
        have pH : p < H.next := Nat.lt_of_lt_of_le hp hx.next
        have rH : r < H.next := Nat.lt_of_lt_of_le hr hx.next
        have hobj1 := hx1.get_lt pH hobj
        have hrg1 := hx1.get_lt rH hrg
        have a2 := ast12 (cs := stepCells s iv) hrg1 hrl rfl (stepCells_one s hiv.one)
        have r3 := ldN12 (get_put_self H1 r (.cells (stepCells s iv))) rfl
        have fin2 := h (H1.put r (.cells (stepCells s iv))) iv (((hx.trans (hx1.toO _)).mono hsub).put (o := r) (.inl (by simp)) _) hiv
        unfold okW at fin2
        rw [hb, hemp] at fin2
        have ec : ((if checkM s.msg = true then (0 : Int) else 1) == 0) = checkM s.msg := by cases checkM s.msg <;> rfl
        simp only [ldN12 hobj1 rfl, abin_i_add, abin_i_sub, abin_i_mul, abin_i_eql, abin_i_neq, abin_i_lss, abin_i_leq, abin_i_gtr, abin_i_geq, abin_s_eql, abin_s_neq, bnd_some, bnd_none, branch_bool, gwant_bool, gwant_nothing, aguard_some, wantE_some, pickV_bool, nilck_ptr, nilck_elem, aoff_ptr, aoff_elem, aun_not, aun_neg, lenStr_str, lenSl_nils, lenSl_sl, lenSl_osl, aextract_tup, ld1uelem, idxStr_str, amin2uint, amax2uint, rangeStr_str, sliceStr_from, sliceStr_to, List.getElem?_cons_zero, List.getElem?_cons_succ, Option.map_some, Option.bind_some, Int.toNat_natCast, Int.toNat_zero, Int.le_refl, Bool.not_true, Bool.not_false, Bool.not_not, Bool.false_eq_true, if_true, if_false, decide_eq_true_eq, beq_self_eq_true, bool_ft, bool_tf, decide_true, decide_false, reduceCtorEq, cmpNil, cmpRes, boxCells, AV.known, AV.cells, Nat.zero_add, and_self, and_true, true_and, ite_self, forall_const, not_true_eq_false, not_false_eq_true, ec, a2, r3]
        simpa using fin2
  | f :: rest, pos, w, s, iv, H, hd, hw, hm, hn, hs, hiv, hobj, hrc, hiter, hx, h => by
    refine .fold ?_
    have hc : fs[pos]? = some f := by
      have := congrArg (fun l => l[0]?) hd
      simpa using this
    have hd' : fs.drop (pos + 1) = rest := by rw [← List.drop_drop, hd]; rfl
    have hcs : f.toNat < 128 := hfs f (List.mem_of_getElem? hc)
    obtain ⟨rc, hrg, hrl⟩ := hrc
    have oH : o < H.next := Nat.lt_of_lt_of_le ho hx.next
    have pH : p < H.next := Nat.lt_of_lt_of_le hp hx.next
    have rH : r < H.next := Nat.lt_of_lt_of_le hr hx.next
    have iH : it < H.next := Nat.lt_of_lt_of_le hit hx.next
    simp only [r_script_step_p2036, nextStr_at hiter hc hcs, abin_i_add, abin_i_sub, abin_i_mul, abin_i_eql, abin_i_neq, abin_i_lss, abin_i_leq, abin_i_gtr, abin_i_geq, abin_s_eql, abin_s_neq, bnd_some, bnd_none, branch_bool, gwant_bool, gwant_nothing, aguard_some, wantE_some, pickV_bool, nilck_ptr, nilck_elem, aoff_ptr, aoff_elem, aun_not, aun_neg, lenStr_str, lenSl_nils, lenSl_sl, lenSl_osl, aextract_tup, ld1uelem, idxStr_str, amin2uint, amax2uint, rangeStr_str, sliceStr_from, sliceStr_to, List.getElem?_cons_zero, List.getElem?_cons_succ, Option.map_some, Option.bind_some, Int.toNat_natCast, Int.toNat_zero, Int.le_refl, Bool.not_true, Bool.not_false, Bool.not_not, Bool.false_eq_true, if_true, if_false, decide_eq_true_eq, beq_self_eq_true, bool_ft, bool_tf, decide_true, decide_false, reduceCtorEq, cmpNil, cmpRes, boxCells, AV.known, AV.cells, Nat.zero_add, and_self, and_true, true_and, ite_self, forall_const, not_true_eq_false, not_false_eq_true]
    have hobj1 : (H.put it (.sIter fs (pos + 1))).get p = some (.cells (stepCells s iv)) := by rw [get_put_ne _ _ hpi]; exact hobj
    obtain ⟨hsw, hsm⟩ := fieldW_small f w s.msg hw hm
    refine c_words_field o p f w s hw (by simpa using oH) (by simpa using pH) hop (hs.putO hoi _) hiv hobj1 fun H1 iv1 hx1 hs1 hobj1 hiv1 => ?_
    refine c_step_loop o p r it fs hfs ho hp hr hit hop hor hpr hoi hpi hri rest (pos + 1) (fieldW f w s.msg).1 { s with msg := (fieldW f w s.msg).2 } iv1 H1 hd' hsw hsm (by have := hx1.next; simp at this; omega) hs1 hiv1 hobj1 ⟨rc, ?_, hrl⟩ ?_ ?_ (fun H' iv' a b => ?_)
    · exact hx1.get_lt (by simpa using rH) (by simp [Ne.symm hor, Ne.symm hpr]) (by rw [get_put_ne _ _ hri]; exact hrg)
    · exact hx1.get_lt (by simpa using iH) (by simp [Ne.symm hoi, Ne.symm hpi]) (get_put_self _ _ _)
    · exact (hx.put (o := it) (.inl (by simp)) _).trans (hx1.mono (by simp))
    · exact h H' iv' a b
theorem fieldsW_small : ∀ (fs : Bs) (w : Wds) (m : Msg), WSmall w.l → MsgSmall m → WSmall (fieldsW fs w m).1.l ∧ MsgSmall (fieldsW fs w m).2
  | [], w, m, hw, hm => ⟨hw, hm⟩
  | f :: fs, w, m, hw, hm => by
    obtain ⟨a, b⟩ := fieldW_small f w m hw hm
    exact fieldsW_small fs _ _ a b
def step0 : List AV := [.int .i64 0, .int .i64 0, .str [], .str [], .str [], .int .i64 0, .int .i64 0, .int .i64 0, .int .i64 0, .nils, .int .i64 0, .int .i64 0]
theorem step0ueq : step0 = stepCells {} .nils := rfl
theorem c_script_step (l : List Bs) (hne : l ≠ []) (hl : WSmall l) {g : Grow} {H : AH} {K : AV → AH → Prop} (h : ∀ H' iv, Ext H H' → IsItems iv (stepS l).1.msg.items → K (.tup [.agg (stepCells (stepS l).1 iv), .bool (stepS l).2]) H') :
    r_script_step [.sl g 1 (l.map .str)] H K := by
  obtain ⟨w0, ws, rfl⟩ : ∃ a b, l = a :: b := by cases l with
    | nil => exact absurd rfl hne
    | cons a b => exact ⟨a, b, rfl⟩
  have hws : WSmall ws := ⟨by have := hl.1; simp at this; omega, fun s hs => hl.2 s (List.mem_cons_of_mem _ hs)⟩
  have hw0 := hl.2 w0 (List.mem_cons_self ..)
  have est : astruct [(0, 1), (1, 1)] [.nils, .bool false] [(0, .sl g 1 (ws.map .str))] = some (.agg [.sl g 1 (ws.map .str), .bool false]) := rfl
  have ei : idxA 1 (.sl g 1 (AV.str w0 :: ws.map .str)) (.int .i64 0) = some (.elem [.str w0] 0) := by simp [idxA, AV.known, AV.cells]
  simp only [r_script_step, List.map_cons, sliceSl_from1, abin_i_add, abin_i_sub, abin_i_mul, abin_i_eql, abin_i_neq, abin_i_lss, abin_i_leq, abin_i_gtr, abin_i_geq, abin_s_eql, abin_s_neq, bnd_some, bnd_none, branch_bool, gwant_bool, gwant_nothing, aguard_some, wantE_some, pickV_bool, nilck_ptr, nilck_elem, aoff_ptr, aoff_elem, aun_not, aun_neg, lenStr_str, lenSl_nils, lenSl_sl, lenSl_osl, aextract_tup, ld1uelem, idxStr_str, amin2uint, amax2uint, rangeStr_str, sliceStr_from, sliceStr_to, List.getElem?_cons_zero, List.getElem?_cons_succ, Option.map_some, Option.bind_some, Int.toNat_natCast, Int.toNat_zero, Int.le_refl, Bool.not_true, Bool.not_false, Bool.not_not, Bool.false_eq_true, if_true, if_false, decide_eq_true_eq, beq_self_eq_true, bool_ft, bool_tf, decide_true, decide_false, reduceCtorEq, cmpNil, cmpRes, boxCells, AV.known, AV.cells, Nat.zero_add, and_self, and_true, true_and, ite_self, forall_const, not_true_eq_false, not_false_eq_true, est, ei]
  have hH2 : ((H.add (.cells step0)).add (.cells [.sl g 1 (ws.map .str), .bool false])).next = H.next + 2 := rfl
  have hxx : Ext H ((H.add (.cells step0)).add (.cells [.sl g 1 (ws.map .str), .bool false])) := ((Ext.refl H).add _).add _
  have hg0 : ((H.add (.cells step0)).add (.cells [.sl g 1 (ws.map .str), .bool false])).get H.next = some (.cells step0) := by
    rw [get_add_ne _ _ (by simp)]; exact get_add_self _ _
  have hs0 : IsWords ((H.add (.cells step0)).add (.cells [.sl g 1 (ws.map .str), .bool false])) (H.next + 1) ⟨ws, false⟩ := ⟨g, by
    have := get_add_self (H.add (.cells step0)) (.cells [.sl g 1 (ws.map .str), .bool false])
    simpa using this⟩
  have e0 : [AV.int .i64 0, .int .i64 0, .str [], .str [], .str [], .int .i64 0, .int .i64 0, .int .i64 0, .int .i64 0, .nils, .int .i64 0, .int .i64 0] = step0 := rfl
  rw [e0]
  generalize hHH : (H.add (.cells step0)).add (.cells [.sl g 1 (ws.map .str), .bool false]) = H2 at *
  have en : (H.add (.cells step0)).next = H.next + 1 := rfl
  simp only [en]
  unfold stepS at h
  simp only [List.tail_cons, List.headD_cons] at h
  by_cases c1 : w0 = wTick
  · subst c1
    simp only [if_true] at h
    simp only [show ((wTick : Bs) == [116, 105, 99, 107]) = true from rfl, abin_i_add, abin_i_sub, abin_i_mul, abin_i_eql, abin_i_neq, abin_i_lss, abin_i_leq, abin_i_gtr, abin_i_geq, abin_s_eql, abin_s_neq, bnd_some, bnd_none, branch_bool, gwant_bool, gwant_nothing, aguard_some, wantE_some, pickV_bool, nilck_ptr, nilck_elem, aoff_ptr, aoff_elem, aun_not, aun_neg, lenStr_str, lenSl_nils, lenSl_sl, lenSl_osl, aextract_tup, ld1uelem, idxStr_str, amin2uint, amax2uint, rangeStr_str, sliceStr_from, sliceStr_to, List.getElem?_cons_zero, List.getElem?_cons_succ, Option.map_some, Option.bind_some, Int.toNat_natCast, Int.toNat_zero, Int.le_refl, Bool.not_true, Bool.not_false, Bool.not_not, Bool.false_eq_true, if_true, if_false, decide_eq_true_eq, beq_self_eq_true, bool_ft, bool_tf, decide_true, decide_false, reduceCtorEq, cmpNil, cmpRes, boxCells, AV.known, AV.cells, Nat.zero_add, and_self, and_true, true_and, ite_self, forall_const, not_true_eq_false, not_false_eq_true]
    refine c_words_number (H.next + 1) ⟨ws, false⟩ hws (by omega) hs0 fun H3 hx3 hs3 => ?_
    have asx : astruct [(0, 1), (1, 9), (10, 1), (11, 1)] step0 [(0, .int .i64 2), (2, .int .i64 (numberW ⟨ws, false⟩).1)] = some (.agg (stepCells { kind := 2, n := (numberW ⟨ws, false⟩).1 } .nils)) := rfl
    have a1 : ast 12 (.ptr H3.next 0) (.agg (stepCells { kind := 2, n := (numberW ⟨ws, false⟩).1 } .nils)) (H3.add (.cells step0)) = some (H3.add (.cells (stepCells { kind := 2, n := (numberW ⟨ws, false⟩).1 } .nils))) := by
      rw [ast12 (cs := stepCells { kind := 2, n := (numberW ⟨ws, false⟩).1 } .nils) (get_add_self _ _) rfl rfl rfl, add_put]
    simp only [asx, bnd_some, a1]
    have hnn := hx3.next
    have hg3 := hx3.get_lt (by omega) (by simp) hg0
    refine c_step_fin (H.next + 1) H3.next H.next (numberW ⟨ws, false⟩).2 { kind := 2, n := (numberW ⟨ws, false⟩).1 } (iv := .nils) rfl (hs3.ext ((Ext.refl H3).add _) (by omega)) (by omega) (by omega) (get_add_self _ _) (rc := step0) (by rw [get_add_ne _ _ (by omega)]; exact hg3) rfl fun H' hx' => ?_
    refine h H' .nils ?_ (.inl ⟨rfl, rfl⟩)
    exact ExtO.ext (ExtO.ext hxx hx3 (by simp)) (((ExtO.refl [H.next] H3).add _).trans hx') (by simp)
  by_cases c2 : w0 = wFuse
  · subst c2
    simp only [if_true, show (wFuse = wTick) = False from by decide] at h
    simp only [show ((wFuse : Bs) == [116, 105, 99, 107]) = false from rfl, show ((wFuse : Bs) == [102, 117, 115, 101]) = true from rfl, abin_i_add, abin_i_sub, abin_i_mul, abin_i_eql, abin_i_neq, abin_i_lss, abin_i_leq, abin_i_gtr, abin_i_geq, abin_s_eql, abin_s_neq, bnd_some, bnd_none, branch_bool, gwant_bool, gwant_nothing, aguard_some, wantE_some, pickV_bool, nilck_ptr, nilck_elem, aoff_ptr, aoff_elem, aun_not, aun_neg, lenStr_str, lenSl_nils, lenSl_sl, lenSl_osl, aextract_tup, ld1uelem, idxStr_str, amin2uint, amax2uint, rangeStr_str, sliceStr_from, sliceStr_to, List.getElem?_cons_zero, List.getElem?_cons_succ, Option.map_some, Option.bind_some, Int.toNat_natCast, Int.toNat_zero, Int.le_refl, Bool.not_true, Bool.not_false, Bool.not_not, Bool.false_eq_true, if_true, if_false, decide_eq_true_eq, beq_self_eq_true, bool_ft, bool_tf, decide_true, decide_false, reduceCtorEq, cmpNil, cmpRes, boxCells, AV.known, AV.cells, Nat.zero_add, and_self, and_true, true_and, ite_self, forall_const, not_true_eq_false, not_false_eq_true]
    refine c_words_number (H.next + 1) ⟨ws, false⟩ hws (by omega) hs0 fun H3 hx3 hs3 => ?_
    have asx : astruct [(0, 1), (1, 9), (10, 1), (11, 1)] step0 [(0, .int .i64 3), (2, .int .i64 (numberW ⟨ws, false⟩).1)] = some (.agg (stepCells { kind := 3, n := (numberW ⟨ws, false⟩).1 } .nils)) := rfl
    have a1 : ast 12 (.ptr H3.next 0) (.agg (stepCells { kind := 3, n := (numberW ⟨ws, false⟩).1 } .nils)) (H3.add (.cells step0)) = some (H3.add (.cells (stepCells { kind := 3, n := (numberW ⟨ws, false⟩).1 } .nils))) := by
      rw [ast12 (cs := stepCells { kind := 3, n := (numberW ⟨ws, false⟩).1 } .nils) (get_add_self _ _) rfl rfl rfl, add_put]
    simp only [asx, bnd_some, a1]
    have hnn := hx3.next
    have hg3 := hx3.get_lt (by omega) (by simp) hg0
    refine c_step_fin (H.next + 1) H3.next H.next (numberW ⟨ws, false⟩).2 { kind := 3, n := (numberW ⟨ws, false⟩).1 } (iv := .nils) rfl (hs3.ext ((Ext.refl H3).add _) (by omega)) (by omega) (by omega) (get_add_self _ _) (rc := step0) (by rw [get_add_ne _ _ (by omega)]; exact hg3) rfl fun H' hx' => ?_
    refine h H' .nils ?_ (.inl ⟨rfl, rfl⟩)
    exact ExtO.ext (ExtO.ext hxx hx3 (by simp)) (((ExtO.refl [H.next] H3).add _).trans hx') (by simp)
  by_cases c3 : w0 = wCrash
  · subst c3
    simp only [if_true, show (wCrash = wTick) = False from by decide, show (wCrash = wFuse) = False from by decide] at h
    simp only [show ((wCrash : Bs) == [116, 105, 99, 107]) = false from rfl, show ((wCrash : Bs) == [102, 117, 115, 101]) = false from rfl, show ((wCrash : Bs) == [99, 114, 97, 115, 104]) = true from rfl, abin_i_add, abin_i_sub, abin_i_mul, abin_i_eql, abin_i_neq, abin_i_lss, abin_i_leq, abin_i_gtr, abin_i_geq, abin_s_eql, abin_s_neq, bnd_some, bnd_none, branch_bool, gwant_bool, gwant_nothing, aguard_some, wantE_some, pickV_bool, nilck_ptr, nilck_elem, aoff_ptr, aoff_elem, aun_not, aun_neg, lenStr_str, lenSl_nils, lenSl_sl, lenSl_osl, aextract_tup, ld1uelem, idxStr_str, amin2uint, amax2uint, rangeStr_str, sliceStr_from, sliceStr_to, List.getElem?_cons_zero, List.getElem?_cons_succ, Option.map_some, Option.bind_some, Int.toNat_natCast, Int.toNat_zero, Int.le_refl, Bool.not_true, Bool.not_false, Bool.not_not, Bool.false_eq_true, if_true, if_false, decide_eq_true_eq, beq_self_eq_true, bool_ft, bool_tf, decide_true, decide_false, reduceCtorEq, cmpNil, cmpRes, boxCells, AV.known, AV.cells, Nat.zero_add, and_self, and_true, true_and, ite_self, forall_const, not_true_eq_false, not_false_eq_true]
    refine c_words_number (H.next + 1) ⟨ws, false⟩ hws (by omega) hs0 fun H3 hx3 hs3 => ?_
    obtain ⟨hw3, _⟩ := numberW_small (w := ⟨ws, false⟩) hws
    have asx : astruct [(0, 1), (1, 9), (10, 1), (11, 1)] step0 [(0, .int .i64 4), (2, .int .i64 (numberW ⟨ws, false⟩).1), (3, .int .i64 (-1))] = some (.agg (stepCells { kind := 4, n := (numberW ⟨ws, false⟩).1, m := -1 } .nils)) := rfl
    have a1 : ast 12 (.ptr H3.next 0) (.agg (stepCells { kind := 4, n := (numberW ⟨ws, false⟩).1, m := -1 } .nils)) (H3.add (.cells step0)) = some (H3.add (.cells (stepCells { kind := 4, n := (numberW ⟨ws, false⟩).1, m := -1 } .nils))) := by
      rw [ast12 (cs := stepCells { kind := 4, n := (numberW ⟨ws, false⟩).1, m := -1 } .nils) (get_add_self _ _) rfl rfl rfl, add_put]
    simp only [asx, abin_i_add, abin_i_sub, abin_i_mul, abin_i_eql, abin_i_neq, abin_i_lss, abin_i_leq, abin_i_gtr, abin_i_geq, abin_s_eql, abin_s_neq, bnd_some, bnd_none, branch_bool, gwant_bool, gwant_nothing, aguard_some, wantE_some, pickV_bool, nilck_ptr, nilck_elem, aoff_ptr, aoff_elem, aun_not, aun_neg, lenStr_str, lenSl_nils, lenSl_sl, lenSl_osl, aextract_tup, ld1uelem, idxStr_str, amin2uint, amax2uint, rangeStr_str, sliceStr_from, sliceStr_to, List.getElem?_cons_zero, List.getElem?_cons_succ, Option.map_some, Option.bind_some, Int.toNat_natCast, Int.toNat_zero, Int.le_refl, Bool.not_true, Bool.not_false, Bool.not_not, Bool.false_eq_true, if_true, if_false, decide_eq_true_eq, beq_self_eq_true, bool_ft, bool_tf, decide_true, decide_false, reduceCtorEq, cmpNil, cmpRes, boxCells, AV.known, AV.cells, Nat.zero_add, and_self, and_true, true_and, ite_self, forall_const, not_true_eq_false, not_false_eq_true, a1]
    have hnn := hx3.next
    have hg3 := hx3.get_lt (by omega) (by simp) hg0
    have hs3' : IsWords (H3.add (.cells (stepCells { kind := 4, n := (numberW ⟨ws, false⟩).1, m := -1 } .nils))) (H.next + 1) (numberW ⟨ws, false⟩).2 := hs3.ext ((Ext.refl H3).add _) (by omega)
    obtain ⟨g', f0, f1⟩ := words_at hs3'
    have hp3 := get_add_self H3 (.cells (stepCells { kind := 4, n := (numberW ⟨ws, false⟩).1, m := -1 } .nils))
    have epos : decide (((((numberW ⟨ws, false⟩).2.l.map AV.str).length : Nat) : Int) > 0) = decide (0 < (numberW ⟨ws, false⟩).2.l.length) := by rw [decide_eq_decide]; simp
    simp only [f0, abin_i_add, abin_i_sub, abin_i_mul, abin_i_eql, abin_i_neq, abin_i_lss, abin_i_leq, abin_i_gtr, abin_i_geq, abin_s_eql, abin_s_neq, bnd_some, bnd_none, branch_bool, gwant_bool, gwant_nothing, aguard_some, wantE_some, pickV_bool, nilck_ptr, nilck_elem, aoff_ptr, aoff_elem, aun_not, aun_neg, lenStr_str, lenSl_nils, lenSl_sl, lenSl_osl, aextract_tup, ld1uelem, idxStr_str, amin2uint, amax2uint, rangeStr_str, sliceStr_from, sliceStr_to, List.getElem?_cons_zero, List.getElem?_cons_succ, Option.map_some, Option.bind_some, Int.toNat_natCast, Int.toNat_zero, Int.le_refl, Bool.not_true, Bool.not_false, Bool.not_not, Bool.false_eq_true, if_true, if_false, decide_eq_true_eq, beq_self_eq_true, bool_ft, bool_tf, decide_true, decide_false, reduceCtorEq, cmpNil, cmpRes, boxCells, AV.known, AV.cells, Nat.zero_add, and_self, and_true, true_and, ite_self, forall_const, not_true_eq_false, not_false_eq_true, epos]
    by_cases hpos : 0 < (numberW ⟨ws, false⟩).2.l.length
    · simp only [hpos, if_true] at h
      simp only [hpos, abin_i_add, abin_i_sub, abin_i_mul, abin_i_eql, abin_i_neq, abin_i_lss, abin_i_leq, abin_i_gtr, abin_i_geq, abin_s_eql, abin_s_neq, bnd_some, bnd_none, branch_bool, gwant_bool, gwant_nothing, aguard_some, wantE_some, pickV_bool, nilck_ptr, nilck_elem, aoff_ptr, aoff_elem, aun_not, aun_neg, lenStr_str, lenSl_nils, lenSl_sl, lenSl_osl, aextract_tup, ld1uelem, idxStr_str, amin2uint, amax2uint, rangeStr_str, sliceStr_from, sliceStr_to, List.getElem?_cons_zero, List.getElem?_cons_succ, Option.map_some, Option.bind_some, Int.toNat_natCast, Int.toNat_zero, Int.le_refl, Bool.not_true, Bool.not_false, Bool.not_not, Bool.false_eq_true, if_true, if_false, decide_eq_true_eq, beq_self_eq_true, bool_ft, bool_tf, decide_true, decide_false, reduceCtorEq, cmpNil, cmpRes, boxCells, AV.known, AV.cells, Nat.zero_add, and_self, and_true, true_and, ite_self, forall_const, not_true_eq_false, not_false_eq_true]
      refine c_words_number (H.next + 1) _ hw3 (by simp; omega) hs3' fun H4 hx4 hs4 => ?_
      have hp4 := hx4.get_lt (by simp) (by simp; omega) hp3
      have st := ast1uptr hp4 (i := 11) (v := .int .i64 (numberW (numberW ⟨ws, false⟩).2).1) rfl (by show 11 < 12; omega)
      have hn4 := hx4.next
      simp only [next_add] at hn4
      simp only [st, bnd_some]
      refine c_step_fin (H.next + 1) H3.next H.next (numberW (numberW ⟨ws, false⟩).2).2 { kind := 4, n := (numberW ⟨ws, false⟩).1, m := (numberW (numberW ⟨ws, false⟩).2).1 } (iv := .nils) rfl (hs4.putO (by omega) _) (by omega) (by omega) (get_put_self _ _ _) (rc := step0) ?_ rfl fun H' hx' => ?_
      · rw [get_put_ne _ _ (by omega)]
        exact hx4.get_lt (by simp; omega) (by simp) (by rw [get_add_ne _ _ (by omega)]; exact hg3)
      · refine h H' .nils ?_ (.inl ⟨rfl, rfl⟩)
        have x1 : Ext H (H3.add (.cells (stepCells { kind := 4, n := (numberW ⟨ws, false⟩).1, m := -1 } .nils))) := (ExtO.ext hxx hx3 (by simp)).add _
        have x2 : Ext H H4 := ExtO.ext x1 hx4 (by simp)
        exact ExtO.ext (x2.put (o := H3.next) (by omega) _) hx' (by simp)
    · simp only [hpos, if_false] at h
      simp only [hpos, abin_i_add, abin_i_sub, abin_i_mul, abin_i_eql, abin_i_neq, abin_i_lss, abin_i_leq, abin_i_gtr, abin_i_geq, abin_s_eql, abin_s_neq, bnd_some, bnd_none, branch_bool, gwant_bool, gwant_nothing, aguard_some, wantE_some, pickV_bool, nilck_ptr, nilck_elem, aoff_ptr, aoff_elem, aun_not, aun_neg, lenStr_str, lenSl_nils, lenSl_sl, lenSl_osl, aextract_tup, ld1uelem, idxStr_str, amin2uint, amax2uint, rangeStr_str, sliceStr_from, sliceStr_to, List.getElem?_cons_zero, List.getElem?_cons_succ, Option.map_some, Option.bind_some, Int.toNat_natCast, Int.toNat_zero, Int.le_refl, Bool.not_true, Bool.not_false, Bool.not_not, Bool.false_eq_true, if_true, if_false, decide_eq_true_eq, beq_self_eq_true, bool_ft, bool_tf, decide_true, decide_false, reduceCtorEq, cmpNil, cmpRes, boxCells, AV.known, AV.cells, Nat.zero_add, and_self, and_true, true_and, ite_self, forall_const, not_true_eq_false, not_false_eq_true]
      refine c_step_fin (H.next + 1) H3.next H.next (numberW ⟨ws, false⟩).2 { kind := 4, n := (numberW ⟨ws, false⟩).1, m := -1 } (iv := .nils) rfl hs3' (by omega) (by omega) hp3 (rc := step0) (by rw [get_add_ne _ _ (by omega)]; exact hg3) rfl fun H' hx' => ?_
      refine h H' .nils ?_ (.inl ⟨rfl, rfl⟩)
      exact ExtO.ext (ExtO.ext hxx hx3 (by simp)) (((ExtO.refl [H.next] H3).add _).trans hx') (by simp)
  have b1 : (w0 == [116, 105, 99, 107]) = false := by simpa [wTick] using c1
  have b2 : (w0 == [102, 117, 115, 101]) = false := by simpa [wFuse] using c2
  have b3 : (w0 == [99, 114, 97, 115, 104]) = false := by simpa [wCrash] using c3
  simp only [c1, c2, c3, if_false] at h
  simp only [abin_i_add, abin_i_sub, abin_i_mul, abin_i_eql, abin_i_neq, abin_i_lss, abin_i_leq, abin_i_gtr, abin_i_geq, abin_s_eql, abin_s_neq, bnd_some, bnd_none, branch_bool, gwant_bool, gwant_nothing, aguard_some, wantE_some, pickV_bool, nilck_ptr, nilck_elem, aoff_ptr, aoff_elem, aun_not, aun_neg, lenStr_str, lenSl_nils, lenSl_sl, lenSl_osl, aextract_tup, ld1uelem, idxStr_str, amin2uint, amax2uint, rangeStr_str, sliceStr_from, sliceStr_to, List.getElem?_cons_zero, List.getElem?_cons_succ, Option.map_some, Option.bind_some, Int.toNat_natCast, Int.toNat_zero, Int.le_refl, Bool.not_true, Bool.not_false, Bool.not_not, Bool.false_eq_true, if_true, if_false, decide_eq_true_eq, beq_self_eq_true, bool_ft, bool_tf, decide_true, decide_false, reduceCtorEq, cmpNil, cmpRes, boxCells, AV.known, AV.cells, Nat.zero_add, and_self, and_true, true_and, ite_self, forall_const, not_true_eq_false, not_false_eq_true, b1, b2, b3]
  refine c_script_kinds ?_
  simp only [abin_i_add, abin_i_sub, abin_i_mul, abin_i_eql, abin_i_neq, abin_i_lss, abin_i_leq, abin_i_gtr, abin_i_geq, abin_s_eql, abin_s_neq, bnd_some, bnd_none, branch_bool, gwant_bool, gwant_nothing, aguard_some, wantE_some, pickV_bool, nilck_ptr, nilck_elem, aoff_ptr, aoff_elem, aun_not, aun_neg, lenStr_str, lenSl_nils, lenSl_sl, lenSl_osl, aextract_tup, ld1uelem, idxStr_str, amin2uint, amax2uint, rangeStr_str, sliceStr_from, sliceStr_to, List.getElem?_cons_zero, List.getElem?_cons_succ, Option.map_some, Option.bind_some, Int.toNat_natCast, Int.toNat_zero, Int.le_refl, Bool.not_true, Bool.not_false, Bool.not_not, Bool.false_eq_true, if_true, if_false, decide_eq_true_eq, beq_self_eq_true, bool_ft, bool_tf, decide_true, decide_false, reduceCtorEq, cmpNil, cmpRes, boxCells, AV.known, AV.cells, Nat.zero_add, and_self, and_true, true_and, ite_self, forall_const, not_true_eq_false, not_false_eq_true, look_kinds w0 (get_add_self _ _)]
  cases hk : kindOf w0 with
  | none =>
    rw [hk] at h
    have hr : (H2.add (.map kindsEs 9)).get H.next = some (.cells step0) := by rw [get_add_ne _ _ (by omega)]; exact hg0
    have asx : astruct [(0, 1), (1, 9), (10, 1), (11, 1)] step0 [] = some (.agg (stepCells {} .nils)) := rfl
    have a1 := ast12 (cs := stepCells {} .nils) hr rfl rfl rfl
    have r2 := ldN12 (get_put_self (H2.add (.map kindsEs 9)) H.next (.cells (stepCells {} .nils))) rfl
    have fin := h ((H2.add (.map kindsEs 9)).put H.next (.cells (stepCells {} .nils))) .nils ((hxx.add _).put (Nat.le_refl _) _) (.inl ⟨rfl, rfl⟩)
    simpa only [Option.isSome_none, abin_i_add, abin_i_sub, abin_i_mul, abin_i_eql, abin_i_neq, abin_i_lss, abin_i_leq, abin_i_gtr, abin_i_geq, abin_s_eql, abin_s_neq, bnd_some, bnd_none, branch_bool, gwant_bool, gwant_nothing, aguard_some, wantE_some, pickV_bool, nilck_ptr, nilck_elem, aoff_ptr, aoff_elem, aun_not, aun_neg, lenStr_str, lenSl_nils, lenSl_sl, lenSl_osl, aextract_tup, ld1uelem, idxStr_str, amin2uint, amax2uint, rangeStr_str, sliceStr_from, sliceStr_to, List.getElem?_cons_zero, List.getElem?_cons_succ, Option.map_some, Option.bind_some, Int.toNat_natCast, Int.toNat_zero, Int.le_refl, Bool.not_true, Bool.not_false, Bool.not_not, Bool.false_eq_true, if_true, if_false, decide_eq_true_eq, beq_self_eq_true, bool_ft, bool_tf, decide_true, decide_false, reduceCtorEq, cmpNil, cmpRes, boxCells, AV.known, AV.cells, Nat.zero_add, and_self, and_true, true_and, ite_self, forall_const, not_true_eq_false, not_false_eq_true, asx, a1, r2] using fin
  | some k =>
    rw [hk] at h
    simp only at h
    have am : astruct [(0, 1), (1, 1), (2, 1), (3, 1), (4, 1), (5, 1), (6, 1), (7, 1), (8, 1)] [.int .i64 0, .str [], .str [], .str [], .int .i64 0, .int .i64 0, .int .i64 0, .int .i64 0, .nils] [(0, .int .i64 k)] = some (.agg (msgCells { kind := k } .nils)) := rfl
    have asx : astruct [(0, 1), (1, 9), (10, 1), (11, 1)] step0 [(0, .int .i64 1), (1, .agg (msgCells { kind := k } .nils))] = some (.agg (stepCells { kind := 1, msg := { kind := k } } .nils)) := rfl
    simp only [Option.isSome_some, Option.getD_some, abin_i_add, abin_i_sub, abin_i_mul, abin_i_eql, abin_i_neq, abin_i_lss, abin_i_leq, abin_i_gtr, abin_i_geq, abin_s_eql, abin_s_neq, bnd_some, bnd_none, branch_bool, gwant_bool, gwant_nothing, aguard_some, wantE_some, pickV_bool, nilck_ptr, nilck_elem, aoff_ptr, aoff_elem, aun_not, aun_neg, lenStr_str, lenSl_nils, lenSl_sl, lenSl_osl, aextract_tup, ld1uelem, idxStr_str, amin2uint, amax2uint, rangeStr_str, sliceStr_from, sliceStr_to, List.getElem?_cons_zero, List.getElem?_cons_succ, Option.map_some, Option.bind_some, Int.toNat_natCast, Int.toNat_zero, Int.le_refl, Bool.not_true, Bool.not_false, Bool.not_not, Bool.false_eq_true, if_true, if_false, decide_eq_true_eq, beq_self_eq_true, bool_ft, bool_tf, decide_true, decide_false, reduceCtorEq, cmpNil, cmpRes, boxCells, AV.known, AV.cells, Nat.zero_add, and_self, and_true, true_and, ite_self, forall_const, not_true_eq_false, not_false_eq_true, am, asx]
    have hn3 : (H2.add (.map kindsEs 9)).next = H.next + 3 := by rw [next_add, hH2]
    have a1 : ast 12 (.ptr (H2.add (.map kindsEs 9)).next 0) (.agg (stepCells { kind := 1, msg := { kind := k } } .nils)) ((H2.add (.map kindsEs 9)).add (.cells step0)) = some ((H2.add (.map kindsEs 9)).add (.cells (stepCells { kind := 1, msg := { kind := k } } .nils))) := by
      rw [ast12 (cs := stepCells { kind := 1, msg := { kind := k } } .nils) (get_add_self _ _) rfl rfl rfl, add_put]
    rw [hn3] at a1
    simp only [hn3, a1, bnd_some]
    refine c_message_Fields k ?_
    simp only [abin_i_add, abin_i_sub, abin_i_mul, abin_i_eql, abin_i_neq, abin_i_lss, abin_i_leq, abin_i_gtr, abin_i_geq, abin_s_eql, abin_s_neq, bnd_some, bnd_none, branch_bool, gwant_bool, gwant_nothing, aguard_some, wantE_some, pickV_bool, nilck_ptr, nilck_elem, aoff_ptr, aoff_elem, aun_not, aun_neg, lenStr_str, lenSl_nils, lenSl_sl, lenSl_osl, aextract_tup, ld1uelem, idxStr_str, amin2uint, amax2uint, rangeStr_str, sliceStr_from, sliceStr_to, List.getElem?_cons_zero, List.getElem?_cons_succ, Option.map_some, Option.bind_some, Int.toNat_natCast, Int.toNat_zero, Int.le_refl, Bool.not_true, Bool.not_false, Bool.not_not, Bool.false_eq_true, if_true, if_false, decide_eq_true_eq, beq_self_eq_true, bool_ft, bool_tf, decide_true, decide_false, reduceCtorEq, cmpNil, cmpRes, boxCells, AV.known, AV.cells, Nat.zero_add, and_self, and_true, true_and, ite_self, forall_const, not_true_eq_false, not_false_eq_true]
    -- the loop over the fields
    generalize hH4 : (H2.add (.map kindsEs 9)).add (.cells (stepCells { kind := 1, msg := { kind := k } } .nils)) = H4
    have hn4 : H4.next = H.next + 4 := by rw [← hH4, next_add, hn3]
    have hx4 : Ext H2 H4 := by rw [← hH4]; exact ((Ext.refl H2).add _).add _
    have hp4 : H4.get (H.next + 3) = some (.cells (stepCells { kind := 1, msg := { kind := k } } .nils)) := by
      have := get_add_self (H2.add (.map kindsEs 9)) (.cells (stepCells { kind := 1, msg := { kind := k } } .nils))
      rw [hn3, hH4] at this; exact this
    have x0 : Ext H4 (H4.add (.sIter (fieldsOf k) 0)) := (Ext.refl H4).add _
    refine c_step_loop (H.next + 1) (H.next + 3) H.next H4.next (fieldsOf k) (fieldsOf_small k) (H0 := H4.add (.sIter (fieldsOf k) 0)) (by simp; omega) (by simp; omega) (by simp; omega) (by simp) (by omega) (by omega) (by omega) (by omega) (by omega) (by omega)
      (fieldsOf k) 0 ⟨ws, false⟩ { kind := 1, msg := { kind := k } } .nils _ rfl hws ⟨by simp, by simp, by simp, by simp, by simp⟩ (Nat.le_refl _) (hs0.ext (hx4.trans x0) (by omega)) (.inl ⟨rfl, rfl⟩) (x0.get_lt (by omega) hp4)
      ⟨step0, (hx4.trans x0).get_lt (by omega) hg0, rfl⟩ (get_add_self _ _) (ExtO.refl _ _) fun H' iv' hx' hiv' => ?_
    exact h H' iv' (ExtO.ext ((hxx.trans hx4).trans x0) hx' (by simp; omega)) hiv'
end Go.Va
