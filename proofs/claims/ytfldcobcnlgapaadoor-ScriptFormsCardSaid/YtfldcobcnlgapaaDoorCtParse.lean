/-
  Contracts: the steps of a text.
-/
import Derived.Test.YtfldcobcnlgapaaDoorCtStep2
set_option linter.unusedVariables false
set_option linter.unusedSimpArgs false
set_option maxRecDepth 100000
namespace Go.Va
def wordsOf (line : Bs) : List Bs := (splitB 32 line).filter fun w => !(w == [])
def parseL : List Bs → Option (List Step)
  | [] => some []
  | line :: ls => if wordsOf line = [] then parseL ls else if (stepS (wordsOf line)).2 = true then (parseL ls).map ((stepS (wordsOf line)).1 :: ·) else none
def parseS (text : Bs) : Option (List Step) := parseL (splitB 10 text)

def StepR (e : AV) (s : Step) : Prop := ∃ iv, e = .agg (stepCells s iv) ∧ IsItems iv s.msg.items
def Rel2 {α : Type} (R : AV → α → Prop) (es : List AV) (l : List α) : Prop := es.length = l.length ∧ ∀ (i : Nat) (e : AV) (s : α), es[i]? = some e → l[i]? = some s → R e s
theorem Rel2.nil {α : Type} (R : AV → α → Prop) : Rel2 R [] [] := ⟨rfl, fun i e s h => by simp at h⟩
theorem Rel2.snoc {α : Type} {R : AV → α → Prop} {es : List AV} {l : List α} (h : Rel2 R es l) {e : AV} {s : α} (hr : R e s) : Rel2 R (es ++ [e]) (l ++ [s]) := by
  refine ⟨by simp [h.1], fun i a b ha hb => ?_⟩
  rw [List.getElem?_append] at ha hb
  rw [h.1] at ha
  split at ha
  · rename_i hi; rw [if_pos hi] at hb; exact h.2 i a b ha hb
  · rename_i hi
    rw [if_neg hi] at hb
    have : i - l.length = 0 := by
      have := (List.getElem?_eq_some_iff.1 hb).1; simp at this; omega
    rw [this] at ha hb
    simp at ha hb; subst ha; subst hb; exact hr
def IsSteps (v : AV) (l : List Step) : Prop := ∃ es, IsSl 12 id v es ∧ Rel2 StepR es l
theorem splitB_small (c : UInt8) : ∀ s : Bs, ∀ w ∈ splitB c s, w.length ≤ s.length
  | [], w, h => by simp [splitB] at h; subst h; simp
  | d :: s, w, h => by
    have ih := splitB_small c s
    unfold splitB at h
    split at h
    · rcases List.mem_cons.1 h with rfl | h
      · simp
      · have := ih w h; simp; omega
    · split at h
      · simp at h; subst h; simp
      · rename_i w0 ws e
        rw [e] at ih
        rcases List.mem_cons.1 h with rfl | h
        · have := ih w0 (List.mem_cons_self ..); simp; omega
        · have := ih w (List.mem_cons_of_mem _ h); simp; omega
theorem wordsOf_small {line : Bs} (h : line.length ≤ 900000000) : WSmall (wordsOf line) := by
  have hl := splitB_length 32 line
  have hc : line.count 32 ≤ line.length := List.count_le_length
  refine ⟨Nat.le_trans (List.length_filter_le _ _) (by omega), fun s hs => ?_⟩
  have := splitB_small 32 line s (List.mem_filter.1 hs).1
  omega
theorem all_one_stepR {e : AV} {s : Step} (h : StepR e s) : e.cells.all AV.one = true ∧ e.cells.length = 12 ∧ e.known = true ∧ e = .agg e.cells := by
  obtain ⟨iv, rfl, hi⟩ := h
  exact ⟨stepCells_one s hi.one, rfl, rfl, rfl⟩
theorem c_Parse_1 (w : Bs) (H : AH) (K : AV → AH → Prop) (h : K (.bool (w == [])) H) : acallv (tabL [(k_script_Parse_1, r_script_Parse_1)]) (.fn (.func k_script_Parse_1) [] []) [.str w] H K := by
  simp only [acallv, tabL, k_script_Parse_1, List.nil_append, List.append_nil, Nat.reduceBEq, cond_true, r_script_Parse_1, abin_i_add, abin_i_sub, abin_i_mul, abin_i_eql, abin_i_neq, abin_i_lss, abin_i_leq, abin_i_gtr, abin_i_geq, abin_s_eql, abin_s_neq, bnd_some, bnd_none, branch_bool, gwant_bool, gwant_nothing, aguard_some, wantE_some, pickV_bool, nilck_ptr, nilck_elem, aoff_ptr, aoff_elem, aun_not, aun_neg, lenStr_str, lenSl_nils, lenSl_sl, lenSl_osl, aextract_tup, ld1uelem, idxStr_str, amin2uint, amax2uint, rangeStr_str, sliceStr_from, sliceStr_to, List.getElem?_cons_zero, List.getElem?_cons_succ, Option.map_some, Option.bind_some, Int.toNat_natCast, Int.toNat_zero, Int.le_refl, Bool.not_true, Bool.not_false, Bool.not_not, Bool.false_eq_true, if_true, if_false, decide_eq_true_eq, beq_self_eq_true, bool_ft, bool_tf, decide_true, decide_false, reduceCtorEq, cmpNil, cmpRes, boxCells, AV.known, AV.cells, Nat.zero_add, and_self, and_true, true_and, ite_self, forall_const, not_true_eq_false, not_false_eq_true]
  exact h
theorem c_words_of (line : Bs) (hl : line.length ≤ 900000000) {H : AH} {K : AV → AH → Prop} (h : ∀ H' g, Ext H H' → K (.sl g 1 ((wordsOf line).map .str)) H') :
    frz r_strings_Split [.str line, .str [32]] H fun v H1 => frz (r_slices_DeleteFunc_string_string (tabL [(k_script_Parse_1, r_script_Parse_1)])) [v, .fn (.func k_script_Parse_1) [] []] H1 K := by
  refine c_frzSplitO line 32 (by omega) fun H1 o hx ho hg => ?_
  have hcnt : line.count 32 ≤ line.length := List.count_le_length
  have hlen := splitB_length 32 line
  unfold frz
  refine c_DeleteFunc_strs (p := fun w => w == []) c_Parse_1 (splitB 32 line) (by omega) (Nat.le_refl _) ho hx hg fun H2 k hx2 hg2 => ?_
  exact FrzK.strs hg2 rfl (h _ _ (hx2.kill ho))
theorem c_parse_loop {H0 : AH} {K : AV → AH → Prop} : ∀ (ls : List Bs) (g : Grow) (done : List Step) (es : List AV) (v : AV) (H : AH), (∀ l ∈ ls, l.length ≤ 900000000) → done.length + ls.length ≤ 1000000000 → Rel2 StepR es done → IsGrow 12 id H0 v es H → Ext H0 H →
    (∀ l, parseL ls = some l → ∀ H' v', Ext H0 H' → IsSteps v' (done ++ l) → K (.tup [v', .int .i64 0]) H') → (parseL ls = none → ∀ H', Ext H0 H' → K (.tup [.nils, .int .i64 2]) H') →
    LoopP (r_script_Parse_p54 K) [.sl g 1 (ls.map .str), v] H
  | [], g, done, es, v, H, hls, hlen, hr, hg, hx, hok, hno => by
    refine .fold ?_
    have := hok [] rfl H v hx ⟨es, hg.isSl, by simpa using hr⟩
    simpa [r_script_Parse_p54] using this
  | line :: ls, g, done, es, v, H, hls, hlen, hr, hg, hx, hok, hno => by
    refine .fold ?_
    simp only [List.length_cons] at hlen
    have hline := hls line (List.mem_cons_self ..)
    have hls' : ∀ l ∈ ls, l.length ≤ 900000000 := fun l hl => hls l (List.mem_cons_of_mem _ hl)
    have e0 : (((((line :: ls).map AV.str).length : Nat) : Int) == 0) = false := by simp; omega
    have ei : idxA 1 (.sl g 1 ((line :: ls).map .str)) (.int .i64 0) = some (.elem [.str line] 0) := by simp [idxA, AV.known, AV.cells]
    have es1 : sliceSl 1 (.sl g 1 ((line :: ls).map .str)) (some (.int .i64 1)) none none = some (.sl g 1 (ls.map .str)) := sliceSl_from1 g (.str line) (ls.map .str)
    simp only [r_script_Parse_p54, abin_i_add, abin_i_sub, abin_i_mul, abin_i_eql, abin_i_neq, abin_i_lss, abin_i_leq, abin_i_gtr, abin_i_geq, abin_s_eql, abin_s_neq, bnd_some, bnd_none, branch_bool, gwant_bool, gwant_nothing, aguard_some, wantE_some, pickV_bool, nilck_ptr, nilck_elem, aoff_ptr, aoff_elem, aun_not, aun_neg, lenStr_str, lenSl_nils, lenSl_sl, lenSl_osl, aextract_tup, ld1uelem, idxStr_str, amin2uint, amax2uint, rangeStr_str, sliceStr_from, sliceStr_to, List.getElem?_cons_zero, List.getElem?_cons_succ, Option.map_some, Option.bind_some, Int.toNat_natCast, Int.toNat_zero, Int.le_refl, Bool.not_true, Bool.not_false, Bool.not_not, Bool.false_eq_true, if_true, if_false, decide_eq_true_eq, beq_self_eq_true, bool_ft, bool_tf, decide_true, decide_false, reduceCtorEq, cmpNil, cmpRes, boxCells, AV.known, AV.cells, Nat.zero_add, and_self, and_true, true_and, ite_self, forall_const, not_true_eq_false, not_false_eq_true, e0, ei]
    refine c_words_of line hline fun H1 g1 hx1 => ?_
    have hx1' := hx.trans hx1
    have hg1 : IsGrow 12 id H0 v es H1 := hg.mono hx1.next (fun c hc => hx1.tok c hc)
    simp only [es1, abin_i_add, abin_i_sub, abin_i_mul, abin_i_eql, abin_i_neq, abin_i_lss, abin_i_leq, abin_i_gtr, abin_i_geq, abin_s_eql, abin_s_neq, bnd_some, bnd_none, branch_bool, gwant_bool, gwant_nothing, aguard_some, wantE_some, pickV_bool, nilck_ptr, nilck_elem, aoff_ptr, aoff_elem, aun_not, aun_neg, lenStr_str, lenSl_nils, lenSl_sl, lenSl_osl, aextract_tup, ld1uelem, idxStr_str, amin2uint, amax2uint, rangeStr_str, sliceStr_from, sliceStr_to, List.getElem?_cons_zero, List.getElem?_cons_succ, Option.map_some, Option.bind_some, Int.toNat_natCast, Int.toNat_zero, Int.le_refl, Bool.not_true, Bool.not_false, Bool.not_not, Bool.false_eq_true, if_true, if_false, decide_eq_true_eq, beq_self_eq_true, bool_ft, bool_tf, decide_true, decide_false, reduceCtorEq, cmpNil, cmpRes, boxCells, AV.known, AV.cells, Nat.zero_add, and_self, and_true, true_and, ite_self, forall_const, not_true_eq_false, not_false_eq_true, len0]
    unfold parseL at hok hno
    by_cases hw : wordsOf line = []
    · simp only [hw, if_true] at hok hno
      simp only [hw, List.isEmpty_nil, abin_i_add, abin_i_sub, abin_i_mul, abin_i_eql, abin_i_neq, abin_i_lss, abin_i_leq, abin_i_gtr, abin_i_geq, abin_s_eql, abin_s_neq, bnd_some, bnd_none, branch_bool, gwant_bool, gwant_nothing, aguard_some, wantE_some, pickV_bool, nilck_ptr, nilck_elem, aoff_ptr, aoff_elem, aun_not, aun_neg, lenStr_str, lenSl_nils, lenSl_sl, lenSl_osl, aextract_tup, ld1uelem, idxStr_str, amin2uint, amax2uint, rangeStr_str, sliceStr_from, sliceStr_to, List.getElem?_cons_zero, List.getElem?_cons_succ, Option.map_some, Option.bind_some, Int.toNat_natCast, Int.toNat_zero, Int.le_refl, Bool.not_true, Bool.not_false, Bool.not_not, Bool.false_eq_true, if_true, if_false, decide_eq_true_eq, beq_self_eq_true, bool_ft, bool_tf, decide_true, decide_false, reduceCtorEq, cmpNil, cmpRes, boxCells, AV.known, AV.cells, Nat.zero_add, and_self, and_true, true_and, ite_self, forall_const, not_true_eq_false, not_false_eq_true]
      exact c_parse_loop ls g done es v H1 hls' (by omega) hr hg1 hx1' hok hno
    · have hwe : (wordsOf line).isEmpty = false := by simpa using hw
      simp only [hw, if_false] at hok hno
      simp only [hwe, abin_i_add, abin_i_sub, abin_i_mul, abin_i_eql, abin_i_neq, abin_i_lss, abin_i_leq, abin_i_gtr, abin_i_geq, abin_s_eql, abin_s_neq, bnd_some, bnd_none, branch_bool, gwant_bool, gwant_nothing, aguard_some, wantE_some, pickV_bool, nilck_ptr, nilck_elem, aoff_ptr, aoff_elem, aun_not, aun_neg, lenStr_str, lenSl_nils, lenSl_sl, lenSl_osl, aextract_tup, ld1uelem, idxStr_str, amin2uint, amax2uint, rangeStr_str, sliceStr_from, sliceStr_to, List.getElem?_cons_zero, List.getElem?_cons_succ, Option.map_some, Option.bind_some, Int.toNat_natCast, Int.toNat_zero, Int.le_refl, Bool.not_true, Bool.not_false, Bool.not_not, Bool.false_eq_true, if_true, if_false, decide_eq_true_eq, beq_self_eq_true, bool_ft, bool_tf, decide_true, decide_false, reduceCtorEq, cmpNil, cmpRes, boxCells, AV.known, AV.cells, Nat.zero_add, and_self, and_true, true_and, ite_self, forall_const, not_true_eq_false, not_false_eq_true]
      refine c_script_step (wordsOf line) hw (wordsOf_small hline) fun H2 iv hx2 hiv => ?_
      have hx2' := hx1'.trans hx2
      have hsr : StepR (.agg (stepCells (stepS (wordsOf line)).1 iv)) (stepS (wordsOf line)).1 := ⟨iv, rfl, hiv⟩
      have a1 : ast 12 (.ptr H2.next 0) (.agg (stepCells (stepS (wordsOf line)).1 iv)) (H2.add (.cells step0)) = some (H2.add (.cells (stepCells (stepS (wordsOf line)).1 iv))) := by
        rw [ast12 (cs := stepCells (stepS (wordsOf line)).1 iv) (get_add_self _ _) rfl rfl (stepCells_one _ hiv.one), add_put]
      have e00 : [AV.int .i64 0, .int .i64 0, .str [], .str [], .str [], .int .i64 0, .int .i64 0, .int .i64 0, .int .i64 0, .nils, .int .i64 0, .int .i64 0] = step0 := rfl
      simp only [e00, abin_i_add, abin_i_sub, abin_i_mul, abin_i_eql, abin_i_neq, abin_i_lss, abin_i_leq, abin_i_gtr, abin_i_geq, abin_s_eql, abin_s_neq, bnd_some, bnd_none, branch_bool, gwant_bool, gwant_nothing, aguard_some, wantE_some, pickV_bool, nilck_ptr, nilck_elem, aoff_ptr, aoff_elem, aun_not, aun_neg, lenStr_str, lenSl_nils, lenSl_sl, lenSl_osl, aextract_tup, ld1uelem, idxStr_str, amin2uint, amax2uint, rangeStr_str, sliceStr_from, sliceStr_to, List.getElem?_cons_zero, List.getElem?_cons_succ, Option.map_some, Option.bind_some, Int.toNat_natCast, Int.toNat_zero, Int.le_refl, Bool.not_true, Bool.not_false, Bool.not_not, Bool.false_eq_true, if_true, if_false, decide_eq_true_eq, beq_self_eq_true, bool_ft, bool_tf, decide_true, decide_false, reduceCtorEq, cmpNil, cmpRes, boxCells, AV.known, AV.cells, Nat.zero_add, and_self, and_true, true_and, ite_self, forall_const, not_true_eq_false, not_false_eq_true, a1, ldN12 (get_add_self H2 (.cells (stepCells (stepS (wordsOf line)).1 iv))) rfl, buildSl_one 12 (.agg (stepCells (stepS (wordsOf line)).1 iv)) rfl rfl]
      cases hok2 : (stepS (wordsOf line)).2 with
      | false =>
        simp only [hok2, Bool.false_eq_true, if_false] at hno
        simp only [abin_i_add, abin_i_sub, abin_i_mul, abin_i_eql, abin_i_neq, abin_i_lss, abin_i_leq, abin_i_gtr, abin_i_geq, abin_s_eql, abin_s_neq, bnd_some, bnd_none, branch_bool, gwant_bool, gwant_nothing, aguard_some, wantE_some, pickV_bool, nilck_ptr, nilck_elem, aoff_ptr, aoff_elem, aun_not, aun_neg, lenStr_str, lenSl_nils, lenSl_sl, lenSl_osl, aextract_tup, ld1uelem, idxStr_str, amin2uint, amax2uint, rangeStr_str, sliceStr_from, sliceStr_to, List.getElem?_cons_zero, List.getElem?_cons_succ, Option.map_some, Option.bind_some, Int.toNat_natCast, Int.toNat_zero, Int.le_refl, Bool.not_true, Bool.not_false, Bool.not_not, Bool.false_eq_true, if_true, if_false, decide_eq_true_eq, beq_self_eq_true, bool_ft, bool_tf, decide_true, decide_false, reduceCtorEq, cmpNil, cmpRes, boxCells, AV.known, AV.cells, Nat.zero_add, and_self, and_true, true_and, ite_self, forall_const, not_true_eq_false, not_false_eq_true]
        exact hno trivial _ (hx2'.add _)
      | true =>
        simp only [hok2, if_true] at hok hno
        simp only [abin_i_add, abin_i_sub, abin_i_mul, abin_i_eql, abin_i_neq, abin_i_lss, abin_i_leq, abin_i_gtr, abin_i_geq, abin_s_eql, abin_s_neq, bnd_some, bnd_none, branch_bool, gwant_bool, gwant_nothing, aguard_some, wantE_some, pickV_bool, nilck_ptr, nilck_elem, aoff_ptr, aoff_elem, aun_not, aun_neg, lenStr_str, lenSl_nils, lenSl_sl, lenSl_osl, aextract_tup, ld1uelem, idxStr_str, amin2uint, amax2uint, rangeStr_str, sliceStr_from, sliceStr_to, List.getElem?_cons_zero, List.getElem?_cons_succ, Option.map_some, Option.bind_some, Int.toNat_natCast, Int.toNat_zero, Int.le_refl, Bool.not_true, Bool.not_false, Bool.not_not, Bool.false_eq_true, if_true, if_false, decide_eq_true_eq, beq_self_eq_true, bool_ft, bool_tf, decide_true, decide_false, reduceCtorEq, cmpNil, cmpRes, boxCells, AV.known, AV.cells, Nat.zero_add, and_self, and_true, true_and, ite_self, forall_const, not_true_eq_false, not_false_eq_true]
        have hg2 : IsGrow 12 id H0 v es (H2.add (.cells (stepCells (stepS (wordsOf line)).1 iv))) := hg1.mono (by have := hx2.next; simp; omega) (fun c hc => hx2.tok c hc)
        have hesl := hr.1
        have hxs : IsSl 12 id (.sl .full 12 [AV.agg (stepCells (stepS (wordsOf line)).1 iv)]) [AV.agg (stepCells (stepS (wordsOf line)).1 iv)] := .inr ⟨.full, by simp⟩
        have hb1 : (2 * (es.length + [AV.agg (stepCells (stepS (wordsOf line)).1 iv)].length) + 1024) * 136 ≤ 281474976710656 := by simp only [List.length_cons, List.length_nil]; omega
        have hb2 : es.length + [AV.agg (stepCells (stepS (wordsOf line)).1 iv)].length ≤ 9223372036854775807 := by simp only [List.length_cons, List.length_nil]; omega
        have hone : (flat ([AV.agg (stepCells (stepS (wordsOf line)).1 iv)].map id)).all AV.one = true := flat_one fun x hx => by
          simp only [List.mem_singleton] at hx; subst hx; exact stepCells_one _ hiv.one
        refine IsGrow.app hg2 (hx2'.add _) hxs hb1 hb2 hone fun v' H3 hg3 hx3 _ _ => ?_
        · refine c_parse_loop ls g (done ++ [(stepS (wordsOf line)).1]) _ v' H3 hls' (by simp; omega) (hr.snoc hsr) hg3 hx3 (fun l hl H' v'' hx' hv => ?_) fun hn => ?_
          · exact hok ((stepS (wordsOf line)).1 :: l) (by rw [hl]; rfl) H' v'' hx' (by simpa using hv)
          · exact hno (by rw [hn]; rfl)
theorem c_script_Parse (text : Bs) (ht : text.length ≤ 900000000) {H : AH} {K : AV → AH → Prop} (hok : ∀ l, parseS text = some l → ∀ H' v', Ext H H' → IsSteps v' l → K (.tup [v', .int .i64 0]) H') (hno : parseS text = none → ∀ H', Ext H H' → K (.tup [.nils, .int .i64 2]) H') :
    r_script_Parse [.str text] H K := by
  simp only [r_script_Parse]
  refine c_frzSplit text 10 (by omega) fun H1 hx1 => ?_
  have hcnt : text.count 10 ≤ text.length := List.count_le_length
  have hlen := splitB_length 10 text
  refine c_parse_loop (splitB 10 text) .stuck [] [] .nils H1 (fun l hl => by have := splitB_small 10 text l hl; omega) (by simp; omega) (Rel2.nil _) (.inl ⟨rfl, rfl⟩) (Ext.refl H1) (fun l hl H' v' hx' hv => hok l hl H' v' (hx1.trans hx') (by simpa using hv)) fun hn H' hx' => hno hn H' (hx1.trans hx')
end Go.Va
