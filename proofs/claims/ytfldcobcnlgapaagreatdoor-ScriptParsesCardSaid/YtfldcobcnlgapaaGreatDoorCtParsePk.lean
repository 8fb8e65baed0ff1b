/-
  Texts of this claim, one behind the other: what each holds stands at its head.
-/
import Derived.Test.YtfldcobcnlgapaaGreatDoorCtCheckPk
/-
  Contracts: the steps of a text.
-/
set_option linter.unusedVariables false
set_option linter.unusedSimpArgs false
set_option maxRecDepth 100000
namespace Go.Va
def wordsOf (line : Bs) : List Bs := (splitB 32 line).filter fun w => !(w == [])
def parseL : List Bs → Option (List Step)
  | [] => some []
  | line :: ls => if wordsOf line = [] then parseL ls else if (stepS (wordsOf line)).2 = true then (parseL ls).map ((stepS (wordsOf line)).1 :: ·) else none
def parseS (text : Bs) : Option (List Step) := parseL (splitB 10 text)

def StepR (e : AV) (s : Step) : Prop := ∃ iv, e = .agg (stepCells s iv) ∧ IsItems iv s.msg.items
def Rel2 {α : Type} (R : AV → α → Prop) (es : List AV) (l : List α) : Prop := es.length = l.length ∧ ∀ (i : Nat) (e : AV) (s : α), es[i]? = some e → l[i]? = some s → R e s
theorem Rel2.nil {α : Type} (R : AV → α → Prop) : Rel2 R [] [] := ⟨rfl, fun i e s h => by simp at h⟩
theorem Rel2.snoc {α : Type} {R : AV → α → Prop} {es : List AV} {l : List α} (h : Rel2 R es l) {e : AV} {s : α} (hr : R e s) : Rel2 R (es ++ [e]) (l ++ [s]) := by
  refine ⟨by simp [h.1], fun i a b ha hb => ?_⟩
  rw [List.getElem?_append] at ha hb
  rw [h.1] at ha
  split at ha
  · rename_i hi; rw [if_pos hi] at hb; exact h.2 i a b ha hb
  · rename_i hi
    rw [if_neg hi] at hb
    have : i - l.length = 0 := by
      have := (List.getElem?_eq_some_iff.1 hb).1; simp at this; omega
    rw [this] at ha hb
    simp at ha hb; subst ha; subst hb; exact hr
theorem Rel2.at_ {α : Type} {R : AV → α → Prop} {es : List AV} {l : List α} (h : Rel2 R es l) {i : Nat} {s : α} (hs : l[i]? = some s) : ∃ e, es[i]? = some e ∧ R e s := by
  have hlt : i < es.length := by rw [h.1]; exact (List.getElem?_eq_some_iff.1 hs).1
  exact ⟨_, List.getElem?_eq_getElem hlt, h.2 i _ s (List.getElem?_eq_getElem hlt) hs⟩
def IsSteps (v : AV) (l : List Step) : Prop := ∃ es, IsSl 12 id v es ∧ Rel2 StepR es l
theorem splitB_small (c : UInt8) : ∀ s : Bs, ∀ w ∈ splitB c s, w.length ≤ s.length
  | [], w, h => by simp [splitB] at h; subst h; simp
  | d :: s, w, h => by
    have ih := splitB_small c s
    unfold splitB at h
    split at h
    · rcases List.mem_cons.1 h with rfl | h
      · simp
      · have := ih w h; simp; omega
    · split at h
      · simp at h; subst h; simp
      · rename_i w0 ws e
        rw [e] at ih
        rcases List.mem_cons.1 h with rfl | h
        · have := ih w0 (List.mem_cons_self ..); simp; omega
        · have := ih w (List.mem_cons_of_mem _ h); simp; omega
theorem wordsOf_small {line : Bs} (h : line.length ≤ 900000000) : WSmall (wordsOf line) := by
  have hl := splitB_length 32 line
  have hc : line.count 32 ≤ line.length := List.count_le_length
  refine ⟨Nat.le_trans (List.length_filter_le _ _) (by omega), fun s hs => ?_⟩
  have := splitB_small 32 line s (List.mem_filter.1 hs).1
  omega
theorem all_one_stepR {e : AV} {s : Step} (h : StepR e s) : e.cells.all AV.one = true ∧ e.cells.length = 12 ∧ e.known = true ∧ e = .agg e.cells := by
  obtain ⟨iv, rfl, hi⟩ := h
  exact ⟨stepCells_one s hi.one, rfl, rfl, rfl⟩
theorem c_Parse_1 (w : Bs) (H : AH) (K : AV → AH → Prop) (h : K (.bool (w == [])) H) : acallv (tabL [(k_script_Parse_1, r_script_Parse_1)]) (.fn (.func k_script_Parse_1) [] []) [.str w] H K := by
  simp only [acallv, tabL, k_script_Parse_1, List.nil_append, List.append_nil, Nat.reduceBEq, cond_true, r_script_Parse_1, abin_i_add, abin_i_sub, abin_i_mul, abin_i_eql, abin_i_neq, abin_i_lss, abin_i_leq, abin_i_gtr, abin_i_geq, abin_s_eql, abin_s_neq, bnd_some, bnd_none, branch_bool, gwant_bool, gwant_nothing, aguard_some, wantE_some, pickV_bool, nilck_ptr, nilck_elem, aoff_ptr, aoff_elem, aun_not, aun_neg, lenStr_str, lenSl_nils, lenSl_sl, lenSl_osl, aextract_tup, ld1uelem, idxStr_str, amin2uint, amax2uint, rangeStr_str, sliceStr_from, sliceStr_to, List.getElem?_cons_zero, List.getElem?_cons_succ, Option.map_some, Option.bind_some, Int.toNat_natCast, Int.toNat_zero, Int.le_refl, Bool.not_true, Bool.not_false, Bool.not_not, Bool.false_eq_true, if_true, if_false, decide_eq_true_eq, beq_self_eq_true, bool_ft, bool_tf, decide_true, decide_false, reduceCtorEq, cmpNil, cmpRes, boxCells, AV.known, AV.cells, Nat.zero_add, and_self, and_true, true_and, ite_self, forall_const, not_true_eq_false, not_false_eq_true]
  exact h
theorem c_words_of (line : Bs) (hl : line.length ≤ 900000000) {H : AH} {K : AV → AH → Prop} (h : ∀ H' g, Ext H H' → K (.sl g 1 ((wordsOf line).map .str)) H') :
    frz r_strings_Split [.str line, .str [32]] H fun v H1 => frz (r_slices_DeleteFunc_string_string (tabL [(k_script_Parse_1, r_script_Parse_1)])) [v, .fn (.func k_script_Parse_1) [] []] H1 K := by
  refine c_frzSplitO line 32 (by omega) fun H1 o hx ho hg => ?_
  have hcnt : line.count 32 ≤ line.length := List.count_le_length
  have hlen := splitB_length 32 line
  unfold frz
  refine c_DeleteFunc_strs (p := fun w => w == []) c_Parse_1 (splitB 32 line) (by omega) (Nat.le_refl _) ho hx hg fun H2 k hx2 hg2 => ?_
  exact FrzK.strs hg2 rfl (h _ _ (hx2.kill ho))
theorem c_parse_loop {H0 : AH} {K : AV → AH → Prop} : ∀ (ls : List Bs) (g : Grow) (done : List Step) (es : List AV) (v : AV) (H : AH), (∀ l ∈ ls, l.length ≤ 900000000) → done.length + ls.length ≤ 1000000000 → Rel2 StepR es done → IsGrow 12 id H0 v es H → Ext H0 H →
    (∀ l, parseL ls = some l → ∀ H' v', Ext H0 H' → IsSteps v' (done ++ l) → K (.tup [v', .int .i64 0]) H') → (parseL ls = none → ∀ H', Ext H0 H' → K (.tup [.nils, .int .i64 2]) H') →
    LoopP (r_script_Parse_p54 K) [.sl g 1 (ls.map .str), v] H
  | [], g, done, es, v, H, hls, hlen, hr, hg, hx, hok, hno => by
    refine .fold ?_
    have := hok [] rfl H v hx ⟨es, hg.isSl, by simpa using hr⟩
    simpa [r_script_Parse_p54] using this
  | line :: ls, g, done, es, v, H, hls, hlen, hr, hg, hx, hok, hno => by
    refine .fold ?_
    simp only [List.length_cons] at hlen
    have hline := hls line (List.mem_cons_self ..)
    have hls' : ∀ l ∈ ls, l.length ≤ 900000000 := fun l hl => hls l (List.mem_cons_of_mem _ hl)
    have e0 : (((((line :: ls).map AV.str).length : Nat) : Int) == 0) = false := by simp; omega
    have ei : idxA 1 (.sl g 1 ((line :: ls).map .str)) (.int .i64 0) = some (.elem [.str line] 0) := by simp [idxA, AV.known, AV.cells]
    have es1 : sliceSl 1 (.sl g 1 ((line :: ls).map .str)) (some (.int .i64 1)) none none = some (.sl g 1 (ls.map .str)) := sliceSl_from1 g (.str line) (ls.map .str)
    simp only [r_script_Parse_p54, abin_i_add, abin_i_sub, abin_i_mul, abin_i_eql, abin_i_neq, abin_i_lss, abin_i_leq, abin_i_gtr, abin_i_geq, abin_s_eql, abin_s_neq, bnd_some, bnd_none, branch_bool, gwant_bool, gwant_nothing, aguard_some, wantE_some, pickV_bool, nilck_ptr, nilck_elem, aoff_ptr, aoff_elem, aun_not, aun_neg, lenStr_str, lenSl_nils, lenSl_sl, lenSl_osl, aextract_tup, ld1uelem, idxStr_str, amin2uint, amax2uint, rangeStr_str, sliceStr_from, sliceStr_to, List.getElem?_cons_zero, List.getElem?_cons_succ, Option.map_some, Option.bind_some, Int.toNat_natCast, Int.toNat_zero, Int.le_refl, Bool.not_true, Bool.not_false, Bool.not_not, Bool.false_eq_true, if_true, if_false, decide_eq_true_eq, beq_self_eq_true, bool_ft, bool_tf, decide_true, decide_false, reduceCtorEq, cmpNil, cmpRes, boxCells, AV.known, AV.cells, Nat.zero_add, and_self, and_true, true_and, ite_self, forall_const, not_true_eq_false, not_false_eq_true, e0, ei]
    refine c_words_of line hline fun H1 g1 hx1 => ?_
    have hx1' := hx.trans hx1
    have hg1 : IsGrow 12 id H0 v es H1 := hg.mono hx1.next (fun c hc => hx1.tok c hc)
    simp only [es1, abin_i_add, abin_i_sub, abin_i_mul, abin_i_eql, abin_i_neq, abin_i_lss, abin_i_leq, abin_i_gtr, abin_i_geq, abin_s_eql, abin_s_neq, bnd_some, bnd_none, branch_bool, gwant_bool, gwant_nothing, aguard_some, wantE_some, pickV_bool, nilck_ptr, nilck_elem, aoff_ptr, aoff_elem, aun_not, aun_neg, lenStr_str, lenSl_nils, lenSl_sl, lenSl_osl, aextract_tup, ld1uelem, idxStr_str, amin2uint, amax2uint, rangeStr_str, sliceStr_from, sliceStr_to, List.getElem?_cons_zero, List.getElem?_cons_succ, Option.map_some, Option.bind_some, Int.toNat_natCast, Int.toNat_zero, Int.le_refl, Bool.not_true, Bool.not_false, Bool.not_not, Bool.false_eq_true, if_true, if_false, decide_eq_true_eq, beq_self_eq_true, bool_ft, bool_tf, decide_true, decide_false, reduceCtorEq, cmpNil, cmpRes, boxCells, AV.known, AV.cells, Nat.zero_add, and_self, and_true, true_and, ite_self, forall_const, not_true_eq_false, not_false_eq_true, len0]
    unfold parseL at hok hno
    by_cases hw : wordsOf line = []
    · simp only [hw, if_true] at hok hno
      simp only [hw, List.isEmpty_nil, abin_i_add, abin_i_sub, abin_i_mul, abin_i_eql, abin_i_neq, abin_i_lss, abin_i_leq, abin_i_gtr, abin_i_geq, abin_s_eql, abin_s_neq, bnd_some, bnd_none, branch_bool, gwant_bool, gwant_nothing, aguard_some, wantE_some, pickV_bool, nilck_ptr, nilck_elem, aoff_ptr, aoff_elem, aun_not, aun_neg, lenStr_str, lenSl_nils, lenSl_sl, lenSl_osl, aextract_tup, ld1uelem, idxStr_str, amin2uint, amax2uint, rangeStr_str, sliceStr_from, sliceStr_to, List.getElem?_cons_zero, List.getElem?_cons_succ, Option.map_some, Option.bind_some, Int.toNat_natCast, Int.toNat_zero, Int.le_refl, Bool.not_true, Bool.not_false, Bool.not_not, Bool.false_eq_true, if_true, if_false, decide_eq_true_eq, beq_self_eq_true, bool_ft, bool_tf, decide_true, decide_false, reduceCtorEq, cmpNil, cmpRes, boxCells, AV.known, AV.cells, Nat.zero_add, and_self, and_true, true_and, ite_self, forall_const, not_true_eq_false, not_false_eq_true]
      exact c_parse_loop ls g done es v H1 hls' (by omega) hr hg1 hx1' hok hno
    · have hwe : (wordsOf line).isEmpty = false := by simpa using hw
      simp only [hw, if_false] at hok hno
      simp only [hwe, abin_i_add, abin_i_sub, abin_i_mul, abin_i_eql, abin_i_neq, abin_i_lss, abin_i_leq, abin_i_gtr, abin_i_geq, abin_s_eql, abin_s_neq, bnd_some, bnd_none, branch_bool, gwant_bool, gwant_nothing, aguard_some, wantE_some, pickV_bool, nilck_ptr, nilck_elem, aoff_ptr, aoff_elem, aun_not, aun_neg, lenStr_str, lenSl_nils, lenSl_sl, lenSl_osl, aextract_tup, ld1uelem, idxStr_str, amin2uint, amax2uint, rangeStr_str, sliceStr_from, sliceStr_to, List.getElem?_cons_zero, List.getElem?_cons_succ, Option.map_some, Option.bind_some, Int.toNat_natCast, Int.toNat_zero, Int.le_refl, Bool.not_true, Bool.not_false, Bool.not_not, Bool.false_eq_true, if_true, if_false, decide_eq_true_eq, beq_self_eq_true, bool_ft, bool_tf, decide_true, decide_false, reduceCtorEq, cmpNil, cmpRes, boxCells, AV.known, AV.cells, Nat.zero_add, and_self, and_true, true_and, ite_self, forall_const, not_true_eq_false, not_false_eq_true]
      refine c_script_step (wordsOf line) hw (wordsOf_small hline) fun H2 iv hx2 hiv => ?_
      have hx2' := hx1'.trans hx2
      have hsr : StepR (.agg (stepCells (stepS (wordsOf line)).1 iv)) (stepS (wordsOf line)).1 := ⟨iv, rfl, hiv⟩
      have a1 : ast 12 (.ptr H2.next 0) (.agg (stepCells (stepS (wordsOf line)).1 iv)) (H2.add (.cells step0)) = some (H2.add (.cells (stepCells (stepS (wordsOf line)).1 iv))) := by
        rw [ast12 (cs := stepCells (stepS (wordsOf line)).1 iv) (get_add_self _ _) rfl rfl (stepCells_one _ hiv.one), add_put]
      have e00 : [AV.int .i64 0, .int .i64 0, .str [], .str [], .str [], .int .i64 0, .int .i64 0, .int .i64 0, .int .i64 0, .nils, .int .i64 0, .int .i64 0] = step0 := rfl
      simp only [e00, abin_i_add, abin_i_sub, abin_i_mul, abin_i_eql, abin_i_neq, abin_i_lss, abin_i_leq, abin_i_gtr, abin_i_geq, abin_s_eql, abin_s_neq, bnd_some, bnd_none, branch_bool, gwant_bool, gwant_nothing, aguard_some, wantE_some, pickV_bool, nilck_ptr, nilck_elem, aoff_ptr, aoff_elem, aun_not, aun_neg, lenStr_str, lenSl_nils, lenSl_sl, lenSl_osl, aextract_tup, ld1uelem, idxStr_str, amin2uint, amax2uint, rangeStr_str, sliceStr_from, sliceStr_to, List.getElem?_cons_zero, List.getElem?_cons_succ, Option.map_some, Option.bind_some, Int.toNat_natCast, Int.toNat_zero, Int.le_refl, Bool.not_true, Bool.not_false, Bool.not_not, Bool.false_eq_true, if_true, if_false, decide_eq_true_eq, beq_self_eq_true, bool_ft, bool_tf, decide_true, decide_false, reduceCtorEq, cmpNil, cmpRes, boxCells, AV.known, AV.cells, Nat.zero_add, and_self, and_true, true_and, ite_self, forall_const, not_true_eq_false, not_false_eq_true, a1, ldN12 (get_add_self H2 (.cells (stepCells (stepS (wordsOf line)).1 iv))) rfl, buildSl_one 12 (.agg (stepCells (stepS (wordsOf line)).1 iv)) rfl rfl]
      cases hok2 : (stepS (wordsOf line)).2 with
      | false =>
        simp only [hok2, Bool.false_eq_true, if_false] at hno
        simp only [abin_i_add, abin_i_sub, abin_i_mul, abin_i_eql, abin_i_neq, abin_i_lss, abin_i_leq, abin_i_gtr, abin_i_geq, abin_s_eql, abin_s_neq, bnd_some, bnd_none, branch_bool, gwant_bool, gwant_nothing, aguard_some, wantE_some, pickV_bool, nilck_ptr, nilck_elem, aoff_ptr, aoff_elem, aun_not, aun_neg, lenStr_str, lenSl_nils, lenSl_sl, lenSl_osl, aextract_tup, ld1uelem, idxStr_str, amin2uint, amax2uint, rangeStr_str, sliceStr_from, sliceStr_to, List.getElem?_cons_zero, List.getElem?_cons_succ, Option.map_some, Option.bind_some, Int.toNat_natCast, Int.toNat_zero, Int.le_refl, Bool.not_true, Bool.not_false, Bool.not_not, Bool.false_eq_true, if_true, if_false, decide_eq_true_eq, beq_self_eq_true, bool_ft, bool_tf, decide_true, decide_false, reduceCtorEq, cmpNil, cmpRes, boxCells, AV.known, AV.cells, Nat.zero_add, and_self, and_true, true_and, ite_self, forall_const, not_true_eq_false, not_false_eq_true]
        exact hno trivial _ (hx2'.add _)
      | true =>
        simp only [hok2, if_true] at hok hno
        simp only [abin_i_add, abin_i_sub, abin_i_mul, abin_i_eql, abin_i_neq, abin_i_lss, abin_i_leq, abin_i_gtr, abin_i_geq, abin_s_eql, abin_s_neq, bnd_some, bnd_none, branch_bool, gwant_bool, gwant_nothing, aguard_some, wantE_some, pickV_bool, nilck_ptr, nilck_elem, aoff_ptr, aoff_elem, aun_not, aun_neg, lenStr_str, lenSl_nils, lenSl_sl, lenSl_osl, aextract_tup, ld1uelem, idxStr_str, amin2uint, amax2uint, rangeStr_str, sliceStr_from, sliceStr_to, List.getElem?_cons_zero, List.getElem?_cons_succ, Option.map_some, Option.bind_some, Int.toNat_natCast, Int.toNat_zero, Int.le_refl, Bool.not_true, Bool.not_false, Bool.not_not, Bool.false_eq_true, if_true, if_false, decide_eq_true_eq, beq_self_eq_true, bool_ft, bool_tf, decide_true, decide_false, reduceCtorEq, cmpNil, cmpRes, boxCells, AV.known, AV.cells, Nat.zero_add, and_self, and_true, true_and, ite_self, forall_const, not_true_eq_false, not_false_eq_true]
        have hg2 : IsGrow 12 id H0 v es (H2.add (.cells (stepCells (stepS (wordsOf line)).1 iv))) := hg1.mono (by have := hx2.next; simp; omega) (fun c hc => hx2.tok c hc)
        have hesl := hr.1
        have hxs : IsSl 12 id (.sl .full 12 [AV.agg (stepCells (stepS (wordsOf line)).1 iv)]) [AV.agg (stepCells (stepS (wordsOf line)).1 iv)] := .inr ⟨.full, by simp⟩
        have hb1 : (2 * (es.length + [AV.agg (stepCells (stepS (wordsOf line)).1 iv)].length) + 1024) * 136 ≤ 281474976710656 := by simp only [List.length_cons, List.length_nil]; omega
        have hb2 : es.length + [AV.agg (stepCells (stepS (wordsOf line)).1 iv)].length ≤ 9223372036854775807 := by simp only [List.length_cons, List.length_nil]; omega
        have hone : (flat ([AV.agg (stepCells (stepS (wordsOf line)).1 iv)].map id)).all AV.one = true := flat_one fun x hx => by
          simp only [List.mem_singleton] at hx; subst hx; exact stepCells_one _ hiv.one
        refine IsGrow.app hg2 (hx2'.add _) hxs hb1 hb2 hone fun v' H3 hg3 hx3 _ _ => ?_
        · refine c_parse_loop ls g (done ++ [(stepS (wordsOf line)).1]) _ v' H3 hls' (by simp; omega) (hr.snoc hsr) hg3 hx3 (fun l hl H' v'' hx' hv => ?_) fun hn => ?_
          · exact hok ((stepS (wordsOf line)).1 :: l) (by rw [hl]; rfl) H' v'' hx' (by simpa using hv)
          · exact hno (by rw [hn]; rfl)
theorem c_script_Parse (text : Bs) (ht : text.length ≤ 900000000) {H : AH} {K : AV → AH → Prop} (hok : ∀ l, parseS text = some l → ∀ H' v', Ext H H' → IsSteps v' l → K (.tup [v', .int .i64 0]) H') (hno : parseS text = none → ∀ H', Ext H H' → K (.tup [.nils, .int .i64 2]) H') :
    r_script_Parse [.str text] H K := by
  simp only [r_script_Parse]
  refine c_frzSplit text 10 (by omega) fun H1 hx1 => ?_
  have hcnt : text.count 10 ≤ text.length := List.count_le_length
  have hlen := splitB_length 10 text
  refine c_parse_loop (splitB 10 text) .stuck [] [] .nils H1 (fun l hl => by have := splitB_small 10 text l hl; omega) (by simp; omega) (Rel2.nil _) (.inl ⟨rfl, rfl⟩) (Ext.refl H1) (fun l hl H' v' hx' hv => hok l hl H' v' (hx1.trans hx') (by simpa using hv)) fun hn H' hx' => hno hn H' (hx1.trans hx')
end Go.Va

/-
  Contracts: the statements' own helps: numbers within, digits, messages that are alike.
-/
set_option linter.unusedVariables false
set_option linter.unusedSimpArgs false
set_option maxRecDepth 100000
namespace Go.Va
/-- v as one from 0 to n - 1 -/
def within (v : Int) (n : Nat) : Nat := if n < 1 then 0 else (if v.tmod n < 0 then v.tmod n + n else v.tmod n).toNat
theorem within_lt (v : Int) (n : Nat) (h : 0 < n) : within v n < n := by
  unfold within
  rw [if_neg (by omega)]
  have h1 := Int.lt_tmod_of_pos v (show (0 : Int) < n by omega)
  have h2 := Int.tmod_lt_of_pos v (show (0 : Int) < n by omega)
  split <;> omega
theorem c_Within (v : Int) (n : Nat) (hn : (n : Int) ≤ 9223372036854775807) {H : AH} {K : AV → AH → Prop} (h : K (.int .i64 (within v n)) H) : r_hostlerkeep_Within [.int .i64 v, .int .i64 n] H K := by
  unfold within at h
  by_cases h0 : n < 1
  · rw [if_pos h0] at h
    have e : decide ((n : Int) < 1) = true := by simp; omega
    have h : K (.int .i64 0) H := h
    simpa only [r_hostlerkeep_Within, abin_i_add, abin_i_sub, abin_i_mul, abin_i_eql, abin_i_neq, abin_i_lss, abin_i_leq, abin_i_gtr, abin_i_geq, abin_s_eql, abin_s_neq, bnd_some, bnd_none, branch_bool, gwant_bool, gwant_nothing, aguard_some, wantE_some, pickV_bool, nilck_ptr, nilck_elem, aoff_ptr, aoff_elem, aun_not, aun_neg, lenStr_str, lenSl_nils, lenSl_sl, lenSl_osl, aextract_tup, ld1uelem, idxStr_str, amin2uint, amax2uint, rangeStr_str, sliceStr_from, sliceStr_to, List.getElem?_cons_zero, List.getElem?_cons_succ, Option.map_some, Option.bind_some, Int.toNat_natCast, Int.toNat_zero, Int.le_refl, Bool.not_true, Bool.not_false, Bool.not_not, Bool.false_eq_true, if_true, if_false, decide_eq_true_eq, beq_self_eq_true, bool_ft, bool_tf, decide_true, decide_false, reduceCtorEq, cmpNil, cmpRes, boxCells, AV.known, AV.cells, Nat.zero_add, and_self, and_true, true_and, ite_self, forall_const, not_true_eq_false, not_false_eq_true, e] using h
  · rw [if_neg h0] at h
    have e : decide ((n : Int) < 1) = false := by simp; omega
    have ne : ¬ ((n : Int) = 0) := by omega
    have h1 := Int.lt_tmod_of_pos v (show (0 : Int) < n by omega)
    have h2 := Int.tmod_lt_of_pos v (show (0 : Int) < n by omega)
    simp only [r_hostlerkeep_Within, abin_i_add, abin_i_sub, abin_i_mul, abin_i_eql, abin_i_neq, abin_i_lss, abin_i_leq, abin_i_gtr, abin_i_geq, abin_s_eql, abin_s_neq, bnd_some, bnd_none, branch_bool, gwant_bool, gwant_nothing, aguard_some, wantE_some, pickV_bool, nilck_ptr, nilck_elem, aoff_ptr, aoff_elem, aun_not, aun_neg, lenStr_str, lenSl_nils, lenSl_sl, lenSl_osl, aextract_tup, ld1uelem, idxStr_str, amin2uint, amax2uint, rangeStr_str, sliceStr_from, sliceStr_to, List.getElem?_cons_zero, List.getElem?_cons_succ, Option.map_some, Option.bind_some, Int.toNat_natCast, Int.toNat_zero, Int.le_refl, Bool.not_true, Bool.not_false, Bool.not_not, Bool.false_eq_true, if_true, if_false, decide_eq_true_eq, beq_self_eq_true, bool_ft, bool_tf, decide_true, decide_false, reduceCtorEq, cmpNil, cmpRes, boxCells, AV.known, AV.cells, Nat.zero_add, and_self, and_true, true_and, ite_self, forall_const, not_true_eq_false, not_false_eq_true, e, abin_i_rem, ne]
    by_cases h3 : v.tmod n < 0
    · rw [if_pos h3, Int.toNat_of_nonneg (by omega)] at h
      have e3 : decide (v.tmod n < 0) = true := by simpa using h3
      simp only [abin_i_add, abin_i_sub, abin_i_mul, abin_i_eql, abin_i_neq, abin_i_lss, abin_i_leq, abin_i_gtr, abin_i_geq, abin_s_eql, abin_s_neq, bnd_some, bnd_none, branch_bool, gwant_bool, gwant_nothing, aguard_some, wantE_some, pickV_bool, nilck_ptr, nilck_elem, aoff_ptr, aoff_elem, aun_not, aun_neg, lenStr_str, lenSl_nils, lenSl_sl, lenSl_osl, aextract_tup, ld1uelem, idxStr_str, amin2uint, amax2uint, rangeStr_str, sliceStr_from, sliceStr_to, List.getElem?_cons_zero, List.getElem?_cons_succ, Option.map_some, Option.bind_some, Int.toNat_natCast, Int.toNat_zero, Int.le_refl, Bool.not_true, Bool.not_false, Bool.not_not, Bool.false_eq_true, if_true, if_false, decide_eq_true_eq, beq_self_eq_true, bool_ft, bool_tf, decide_true, decide_false, reduceCtorEq, cmpNil, cmpRes, boxCells, AV.known, AV.cells, Nat.zero_add, and_self, and_true, true_and, ite_self, forall_const, not_true_eq_false, not_false_eq_true, r_hostlerkeep_Within_p31, h3]
      rw [wrap_i64 (by omega) (by omega)]; exact h
    · rw [if_neg h3, Int.toNat_of_nonneg (by omega)] at h
      have e3 : decide (v.tmod n < 0) = false := by simpa using h3
      simp only [abin_i_add, abin_i_sub, abin_i_mul, abin_i_eql, abin_i_neq, abin_i_lss, abin_i_leq, abin_i_gtr, abin_i_geq, abin_s_eql, abin_s_neq, bnd_some, bnd_none, branch_bool, gwant_bool, gwant_nothing, aguard_some, wantE_some, pickV_bool, nilck_ptr, nilck_elem, aoff_ptr, aoff_elem, aun_not, aun_neg, lenStr_str, lenSl_nils, lenSl_sl, lenSl_osl, aextract_tup, ld1uelem, idxStr_str, amin2uint, amax2uint, rangeStr_str, sliceStr_from, sliceStr_to, List.getElem?_cons_zero, List.getElem?_cons_succ, Option.map_some, Option.bind_some, Int.toNat_natCast, Int.toNat_zero, Int.le_refl, Bool.not_true, Bool.not_false, Bool.not_not, Bool.false_eq_true, if_true, if_false, decide_eq_true_eq, beq_self_eq_true, bool_ft, bool_tf, decide_true, decide_false, reduceCtorEq, cmpNil, cmpRes, boxCells, AV.known, AV.cells, Nat.zero_add, and_self, and_true, true_and, ite_self, forall_const, not_true_eq_false, not_false_eq_true, r_hostlerkeep_Within_p31, h3]
      exact h

-- ---------------------------------------------------------------- digits
def dig (n : Nat) : UInt8 := UInt8.ofNat (48 + n)
def digitsS (n : Nat) : Bs := if h : n < 10 then [dig n] else digitsS (n / 10) ++ [dig (n % 10)]
  termination_by n
  decreasing_by omega
theorem digitsS_len : ∀ (m n : Nat), n ≤ m → (digitsS n).length ≤ n + 1 := by
  intro m
  induction m with
  | zero => intro n hn; obtain rfl : n = 0 := by omega
            rw [digitsS, dif_pos (by omega)]; simp
  | succ m ih =>
    intro n hn
    rw [digitsS]
    split
    · simp
    · have := ih (n / 10) (by omega)
      simp only [List.length_append, List.length_cons, List.length_nil]; omega
theorem cut_digit : ∀ n, n < 10 → (([48, 49, 50, 51, 52, 53, 54, 55, 56, 57] : Bs).drop n).take 1 = [dig n] := by decide
theorem c_dig (n : Nat) (h : n < 10) (K : AV → Prop) (k : K (.str [dig n])) :
    bnd (sliceStr (.str [48, 49, 50, 51, 52, 53, 54, 55, 56, 57]) (some (.int .i64 n)) none none) fun t => bnd (sliceStr t none (some (.int .i64 1)) none) K := by
  have e1 : (0 : Int) ≤ (n : Int) ∧ (n : Int) ≤ ((([48, 49, 50, 51, 52, 53, 54, 55, 56, 57] : Bs).length : Nat) : Int) := by
    constructor
    · omega
    · show (n : Int) ≤ 10; omega
  have e2 : (0 : Int) ≤ 1 ∧ (1 : Int) ≤ (((([48, 49, 50, 51, 52, 53, 54, 55, 56, 57] : Bs).drop n).length : Nat) : Int) := by
    rw [List.length_drop]
    constructor
    · omega
    · show (1 : Int) ≤ ((10 - n : Nat) : Int); omega
  simp only [sliceStr_from, e1, and_self, if_true, bnd_some, sliceStr_to, Int.toNat_natCast, e2, Int.toNat_one, cut_digit n h]
  exact k
-- ---------------------------------------------------------------- messages that are alike
theorem eqItems (x y : Item) (hx : ItemSmall x) (hy : ItemSmall y) : eqAgg .neq [(0, .str), (1, .cplx)] (encItem x) (encItem y) = some (.bool !(decide (x = y))) := by
  obtain ⟨t, a, b⟩ := x
  obtain ⟨t', a', b'⟩ := y
  have ha := floatEqv_fl a a' hx.1 hy.1
  have hb := floatEqv_fl b b' hx.2.1 hy.2.1
  simp only [eqAgg, encItem, eqL, List.getElem?_cons_zero, List.getElem?_cons_succ, eq1, if_true, ha, hb]
  by_cases h1 : t = t'
  · subst h1
    simp only [beq_self_eq_true]
    by_cases h2 : a = a'
    · by_cases h3 : b = b'
      · subst h2; subst h3; simp [cmpRes]
      · simp [cmpRes, h2, h3]
    · simp [cmpRes, h2]
  · have : (t == t') = false := by simpa using h1
    simp [this, cmpRes, h1]
theorem c_Same_loop (a b : List Item) (ha : ItemsSmall a) (hb : ItemsSmall b) (hl : a.length = b.length) {p q : Nat} {pc qc : List AV} {va vb : AV} {H : AH} (hp : H.get p = some (.cells pc)) (hq : H.get q = some (.cells qc)) (hpc : pc[8]? = some va) (hqc : qc[8]? = some vb) (hva : IsItems va a) (hvb : IsItems vb b) {K : AV → AH → Prop}
    (h : K (.bool (decide (a = b))) H) : ∀ (r : List Item) (i : Nat), a.drop i = r → (decide (a.drop i = b.drop i) = decide (a = b)) → LoopP (r_hostlerref01uSame_p116 K) [.ptr p 0, .ptr q 0, .int .i64 a.length, .int .i64 i] H
  | [], i, hr, he => by
    refine .fold ?_
    have hi : a.length ≤ i := by simpa using hr
    have hlt : ¬ ((i : Int) < (a.length : Int)) := by omega
    have hd : b.drop i = [] := List.drop_eq_nil_of_le (by omega)
    rw [← he, hr, hd] at h
    simpa [r_hostlerref01uSame_p116, hlt] using h
  | x :: r, i, hr, he => by
    refine .fold ?_
    have hx : a[i]? = some x := by
      have := congrArg (fun l => l[0]?) hr
      simpa using this
    have hlt : i < a.length := (List.getElem?_eq_some_iff.1 hx).1
    have hr' : a.drop (i + 1) = r := by rw [← List.drop_drop, hr]; rfl
    have hy : b[i]? = some (b[i]'(by omega)) := List.getElem?_eq_getElem _
    have hyd : b.drop i = b[i]'(by omega) :: b.drop (i + 1) := List.drop_eq_getElem_cons (by omega)
    have hal := ha.1
    have h1 : ((i : Int) < (a.length : Int)) := by omega
    have h2 : (0 : Int) ≤ (i : Int) := by omega
    have hww : IntKind.i64.wrap ((i : Int) + 1) = ((i + 1 : Nat) : Int) := by rw [wrap_i64 (by omega) (by omega)]; omega
    obtain ⟨g1, rfl⟩ : ∃ g, va = .sl g 2 (a.map encItem) := by
      rcases hva with ⟨_, rfl⟩ | hv
      · simp at hlt
      · exact hv
    obtain ⟨g2, rfl⟩ : ∃ g, vb = .sl g 2 (b.map encItem) := by
      rcases hvb with ⟨_, hb0⟩ | hv
      · rw [hb0] at hl; simp at hl; rw [hl] at hlt; simp at hlt
      · exact hv
    have hga : (a.map encItem)[i]? = some (encItem x) := by simp [hx]
    have hgb : (b.map encItem)[i]? = some (encItem (b[i]'(by omega))) := by simp [hy]
    have hld : ∀ z : Item, ldN 2 (.elem (encItem z).cells 0) H = some (encItem z) := fun z => by simp [ldN, encItem, AV.cells]
    have hk : ∀ z : Item, (encItem z).known = true := fun z => rfl
    have hes := eqItems x (b[i]'(by omega)) (ha.2 x (List.mem_of_getElem? hx)) (hb.2 _ (List.getElem_mem _))
    simp only [r_hostlerref01uSame_p116, abin_i_lss, bnd_some, branch_bool, decide_eq_true_eq, h1, if_true, aoff_ptr, Nat.zero_add, ld1uptr hp, ld1uptr hq, hpc, hqc, idxA, h2, and_self, Int.toNat_natCast, hga, hgb, Option.bind_some, hk, hld, hes, abin_i_add, hww]
    by_cases hxy : x = b[i]'(by omega)
    · have e : (!decide (x = b[i]'(by omega))) = false := by simp [hxy]
      simp only [e, Bool.false_eq_true, if_false]
      refine c_Same_loop a b ha hb hl hp hq hpc hqc hva hvb h r (i + 1) hr' ?_
      rw [← he, hr, hr', hyd, decide_eq_decide, List.cons.injEq]
      exact ⟨fun h => ⟨hxy, h⟩, fun h => h.2⟩
    · have e : (!decide (x = b[i]'(by omega))) = true := by simp [hxy]
      simp only [e, if_true]
      have : decide (a = b) = false := by
        rw [← he, hr, hyd, decide_eq_false_iff_not, List.cons.injEq]; exact fun h => hxy h.1
      rw [this] at h; exact h
theorem c_ref_Same (a b : Msg) (ha : MsgSmall a) (hb : MsgSmall b) {va vb : AV} (hva : IsItems va a.items) (hvb : IsItems vb b.items) {H : AH} {K : AV → AH → Prop} (h : ∀ H', Ext H H' → K (.bool (decide (a = b))) H') :
    r_hostlerref01uSame [.agg (msgCells a va), .agg (msgCells b vb)] H K := by
  have h' := h ((H.add (.cells (msgCells a va))).add (.cells (msgCells b vb))) (((Ext.refl H).add _).add _)
  have hp : ((H.add (.cells (msgCells a va))).add (.cells (msgCells b vb))).get H.next = some (.cells (msgCells a va)) := by rw [get_add_ne _ _ (by simp)]; exact get_add_self _ _
  have hq : ((H.add (.cells (msgCells a va))).add (.cells (msgCells b vb))).get (H.next + 1) = some (.cells (msgCells b vb)) := by
    have := get_add_self (H.add (.cells (msgCells a va))) (.cells (msgCells b vb))
    simpa using this
  have len : ∀ {v : AV} {l : List Item}, IsItems v l → lenSl v = some (.int .i64 l.length) := by
    intro v l hv
    rcases hv with ⟨rfl, rfl⟩ | ⟨g, rfl⟩ <;> simp
  simp only [r_hostlerref01uSame, abin_i_add, abin_i_sub, abin_i_mul, abin_i_eql, abin_i_neq, abin_i_lss, abin_i_leq, abin_i_gtr, abin_i_geq, abin_s_eql, abin_s_neq, bnd_some, bnd_none, branch_bool, gwant_bool, gwant_nothing, aguard_some, wantE_some, pickV_bool, nilck_ptr, nilck_elem, aoff_ptr, aoff_elem, aun_not, aun_neg, lenStr_str, lenSl_nils, lenSl_sl, lenSl_osl, aextract_tup, ld1uelem, idxStr_str, amin2uint, amax2uint, rangeStr_str, sliceStr_from, sliceStr_to, List.getElem?_cons_zero, List.getElem?_cons_succ, Option.map_some, Option.bind_some, Int.toNat_natCast, Int.toNat_zero, Int.le_refl, Bool.not_true, Bool.not_false, Bool.not_not, Bool.false_eq_true, if_true, if_false, decide_eq_true_eq, beq_self_eq_true, bool_ft, bool_tf, decide_true, decide_false, reduceCtorEq, cmpNil, cmpRes, boxCells, AV.known, AV.cells, Nat.zero_add, and_self, and_true, true_and, ite_self, forall_const, not_true_eq_false, not_false_eq_true, next_add]
  generalize hHH : (H.add (.cells (msgCells a va))).add (.cells (msgCells b vb)) = H2 at *
  have no : (a ≠ b) → K (.bool false) H2 := fun hne => by
    have : decide (a = b) = false := by simpa using hne
    rw [this] at h'; exact h'
  have a0 : (msgCells a va)[0]? = some (.int .i64 a.kind) := rfl
  have b0 : (msgCells b vb)[0]? = some (.int .i64 b.kind) := rfl
  have a1 : (msgCells a va)[1]? = some (.str a.f) := rfl
  have b1 : (msgCells b vb)[1]? = some (.str b.f) := rfl
  have a2 : (msgCells a va)[2]? = some (.str a.e) := rfl
  have b2 : (msgCells b vb)[2]? = some (.str b.e) := rfl
  have a3 : (msgCells a va)[3]? = some (.str a.t) := rfl
  have b3 : (msgCells b vb)[3]? = some (.str b.t) := rfl
  have a4 : (msgCells a va)[4]? = some (.int .i64 a.n) := rfl
  have b4 : (msgCells b vb)[4]? = some (.int .i64 b.n) := rfl
  have a5 : (msgCells a va)[5]? = some (.int .i64 a.state) := rfl
  have b5 : (msgCells b vb)[5]? = some (.int .i64 b.state) := rfl
  have a6 : (msgCells a va)[6]? = some (.int .i64 a.num) := rfl
  have b6 : (msgCells b vb)[6]? = some (.int .i64 b.num) := rfl
  have a7 : (msgCells a va)[7]? = some (.int .i64 a.epoch) := rfl
  have b7 : (msgCells b vb)[7]? = some (.int .i64 b.epoch) := rfl
  have a8 : (msgCells a va)[8]? = some va := rfl
  have b8 : (msgCells b vb)[8]? = some vb := rfl
  simp only [ld1uptr hp, ld1uptr hq, a0, b0, abin_i_add, abin_i_sub, abin_i_mul, abin_i_eql, abin_i_neq, abin_i_lss, abin_i_leq, abin_i_gtr, abin_i_geq, abin_s_eql, abin_s_neq, bnd_some, bnd_none, branch_bool, gwant_bool, gwant_nothing, aguard_some, wantE_some, pickV_bool, nilck_ptr, nilck_elem, aoff_ptr, aoff_elem, aun_not, aun_neg, lenStr_str, lenSl_nils, lenSl_sl, lenSl_osl, aextract_tup, ld1uelem, idxStr_str, amin2uint, amax2uint, rangeStr_str, sliceStr_from, sliceStr_to, List.getElem?_cons_zero, List.getElem?_cons_succ, Option.map_some, Option.bind_some, Int.toNat_natCast, Int.toNat_zero, Int.le_refl, Bool.not_true, Bool.not_false, Bool.not_not, Bool.false_eq_true, if_true, if_false, decide_eq_true_eq, beq_self_eq_true, bool_ft, bool_tf, decide_true, decide_false, reduceCtorEq, cmpNil, cmpRes, boxCells, AV.known, AV.cells, Nat.zero_add, and_self, and_true, true_and, ite_self, forall_const, not_true_eq_false, not_false_eq_true]
  by_cases c0 : a.kind = b.kind
  case neg =>
    have d : (!(a.kind == b.kind)) = true := by simpa using c0
    have d' : (a.kind != b.kind) = true := by simpa using c0
    simp only [d, d', abin_i_add, abin_i_sub, abin_i_mul, abin_i_eql, abin_i_neq, abin_i_lss, abin_i_leq, abin_i_gtr, abin_i_geq, abin_s_eql, abin_s_neq, bnd_some, bnd_none, branch_bool, gwant_bool, gwant_nothing, aguard_some, wantE_some, pickV_bool, nilck_ptr, nilck_elem, aoff_ptr, aoff_elem, aun_not, aun_neg, lenStr_str, lenSl_nils, lenSl_sl, lenSl_osl, aextract_tup, ld1uelem, idxStr_str, amin2uint, amax2uint, rangeStr_str, sliceStr_from, sliceStr_to, List.getElem?_cons_zero, List.getElem?_cons_succ, Option.map_some, Option.bind_some, Int.toNat_natCast, Int.toNat_zero, Int.le_refl, Bool.not_true, Bool.not_false, Bool.not_not, Bool.false_eq_true, if_true, if_false, decide_eq_true_eq, beq_self_eq_true, bool_ft, bool_tf, decide_true, decide_false, reduceCtorEq, cmpNil, cmpRes, boxCells, AV.known, AV.cells, Nat.zero_add, and_self, and_true, true_and, ite_self, forall_const, not_true_eq_false, not_false_eq_true]
    exact no fun e => c0 (by rw [e])
  have d0 : (!(a.kind == b.kind)) = false := by simpa using c0
  have e0 : (a.kind != b.kind) = false := by simpa using c0
  simp only [d0, e0, abin_i_add, abin_i_sub, abin_i_mul, abin_i_eql, abin_i_neq, abin_i_lss, abin_i_leq, abin_i_gtr, abin_i_geq, abin_s_eql, abin_s_neq, bnd_some, bnd_none, branch_bool, gwant_bool, gwant_nothing, aguard_some, wantE_some, pickV_bool, nilck_ptr, nilck_elem, aoff_ptr, aoff_elem, aun_not, aun_neg, lenStr_str, lenSl_nils, lenSl_sl, lenSl_osl, aextract_tup, ld1uelem, idxStr_str, amin2uint, amax2uint, rangeStr_str, sliceStr_from, sliceStr_to, List.getElem?_cons_zero, List.getElem?_cons_succ, Option.map_some, Option.bind_some, Int.toNat_natCast, Int.toNat_zero, Int.le_refl, Bool.not_true, Bool.not_false, Bool.not_not, Bool.false_eq_true, if_true, if_false, decide_eq_true_eq, beq_self_eq_true, bool_ft, bool_tf, decide_true, decide_false, reduceCtorEq, cmpNil, cmpRes, boxCells, AV.known, AV.cells, Nat.zero_add, and_self, and_true, true_and, ite_self, forall_const, not_true_eq_false, not_false_eq_true, ld1uptr hp, ld1uptr hq, a1, b1]
  by_cases c1 : a.f = b.f
  case neg =>
    have d : (!(a.f == b.f)) = true := by simpa using c1
    have d' : (a.f != b.f) = true := by simpa using c1
    simp only [d, d', abin_i_add, abin_i_sub, abin_i_mul, abin_i_eql, abin_i_neq, abin_i_lss, abin_i_leq, abin_i_gtr, abin_i_geq, abin_s_eql, abin_s_neq, bnd_some, bnd_none, branch_bool, gwant_bool, gwant_nothing, aguard_some, wantE_some, pickV_bool, nilck_ptr, nilck_elem, aoff_ptr, aoff_elem, aun_not, aun_neg, lenStr_str, lenSl_nils, lenSl_sl, lenSl_osl, aextract_tup, ld1uelem, idxStr_str, amin2uint, amax2uint, rangeStr_str, sliceStr_from, sliceStr_to, List.getElem?_cons_zero, List.getElem?_cons_succ, Option.map_some, Option.bind_some, Int.toNat_natCast, Int.toNat_zero, Int.le_refl, Bool.not_true, Bool.not_false, Bool.not_not, Bool.false_eq_true, if_true, if_false, decide_eq_true_eq, beq_self_eq_true, bool_ft, bool_tf, decide_true, decide_false, reduceCtorEq, cmpNil, cmpRes, boxCells, AV.known, AV.cells, Nat.zero_add, and_self, and_true, true_and, ite_self, forall_const, not_true_eq_false, not_false_eq_true]
    exact no fun e => c1 (by rw [e])
  have d1 : (!(a.f == b.f)) = false := by simpa using c1
  have e1 : (a.f != b.f) = false := by simpa using c1
  simp only [d1, e1, abin_i_add, abin_i_sub, abin_i_mul, abin_i_eql, abin_i_neq, abin_i_lss, abin_i_leq, abin_i_gtr, abin_i_geq, abin_s_eql, abin_s_neq, bnd_some, bnd_none, branch_bool, gwant_bool, gwant_nothing, aguard_some, wantE_some, pickV_bool, nilck_ptr, nilck_elem, aoff_ptr, aoff_elem, aun_not, aun_neg, lenStr_str, lenSl_nils, lenSl_sl, lenSl_osl, aextract_tup, ld1uelem, idxStr_str, amin2uint, amax2uint, rangeStr_str, sliceStr_from, sliceStr_to, List.getElem?_cons_zero, List.getElem?_cons_succ, Option.map_some, Option.bind_some, Int.toNat_natCast, Int.toNat_zero, Int.le_refl, Bool.not_true, Bool.not_false, Bool.not_not, Bool.false_eq_true, if_true, if_false, decide_eq_true_eq, beq_self_eq_true, bool_ft, bool_tf, decide_true, decide_false, reduceCtorEq, cmpNil, cmpRes, boxCells, AV.known, AV.cells, Nat.zero_add, and_self, and_true, true_and, ite_self, forall_const, not_true_eq_false, not_false_eq_true, ld1uptr hp, ld1uptr hq, a2, b2]
  by_cases c2 : a.e = b.e
  case neg =>
    have d : (!(a.e == b.e)) = true := by simpa using c2
    have d' : (a.e != b.e) = true := by simpa using c2
    simp only [d, d', abin_i_add, abin_i_sub, abin_i_mul, abin_i_eql, abin_i_neq, abin_i_lss, abin_i_leq, abin_i_gtr, abin_i_geq, abin_s_eql, abin_s_neq, bnd_some, bnd_none, branch_bool, gwant_bool, gwant_nothing, aguard_some, wantE_some, pickV_bool, nilck_ptr, nilck_elem, aoff_ptr, aoff_elem, aun_not, aun_neg, lenStr_str, lenSl_nils, lenSl_sl, lenSl_osl, aextract_tup, ld1uelem, idxStr_str, amin2uint, amax2uint, rangeStr_str, sliceStr_from, sliceStr_to, List.getElem?_cons_zero, List.getElem?_cons_succ, Option.map_some, Option.bind_some, Int.toNat_natCast, Int.toNat_zero, Int.le_refl, Bool.not_true, Bool.not_false, Bool.not_not, Bool.false_eq_true, if_true, if_false, decide_eq_true_eq, beq_self_eq_true, bool_ft, bool_tf, decide_true, decide_false, reduceCtorEq, cmpNil, cmpRes, boxCells, AV.known, AV.cells, Nat.zero_add, and_self, and_true, true_and, ite_self, forall_const, not_true_eq_false, not_false_eq_true]
    exact no fun e => c2 (by rw [e])
  have d2 : (!(a.e == b.e)) = false := by simpa using c2
  have e2 : (a.e != b.e) = false := by simpa using c2
  simp only [d2, e2, abin_i_add, abin_i_sub, abin_i_mul, abin_i_eql, abin_i_neq, abin_i_lss, abin_i_leq, abin_i_gtr, abin_i_geq, abin_s_eql, abin_s_neq, bnd_some, bnd_none, branch_bool, gwant_bool, gwant_nothing, aguard_some, wantE_some, pickV_bool, nilck_ptr, nilck_elem, aoff_ptr, aoff_elem, aun_not, aun_neg, lenStr_str, lenSl_nils, lenSl_sl, lenSl_osl, aextract_tup, ld1uelem, idxStr_str, amin2uint, amax2uint, rangeStr_str, sliceStr_from, sliceStr_to, List.getElem?_cons_zero, List.getElem?_cons_succ, Option.map_some, Option.bind_some, Int.toNat_natCast, Int.toNat_zero, Int.le_refl, Bool.not_true, Bool.not_false, Bool.not_not, Bool.false_eq_true, if_true, if_false, decide_eq_true_eq, beq_self_eq_true, bool_ft, bool_tf, decide_true, decide_false, reduceCtorEq, cmpNil, cmpRes, boxCells, AV.known, AV.cells, Nat.zero_add, and_self, and_true, true_and, ite_self, forall_const, not_true_eq_false, not_false_eq_true, ld1uptr hp, ld1uptr hq, a3, b3]
  by_cases c3 : a.t = b.t
  case neg =>
    have d : (!(a.t == b.t)) = true := by simpa using c3
    have d' : (a.t != b.t) = true := by simpa using c3
    simp only [d, d', abin_i_add, abin_i_sub, abin_i_mul, abin_i_eql, abin_i_neq, abin_i_lss, abin_i_leq, abin_i_gtr, abin_i_geq, abin_s_eql, abin_s_neq, bnd_some, bnd_none, branch_bool, gwant_bool, gwant_nothing, aguard_some, wantE_some, pickV_bool, nilck_ptr, nilck_elem, aoff_ptr, aoff_elem, aun_not, aun_neg, lenStr_str, lenSl_nils, lenSl_sl, lenSl_osl, aextract_tup, ld1uelem, idxStr_str, amin2uint, amax2uint, rangeStr_str, sliceStr_from, sliceStr_to, List.getElem?_cons_zero, List.getElem?_cons_succ, Option.map_some, Option.bind_some, Int.toNat_natCast, Int.toNat_zero, Int.le_refl, Bool.not_true, Bool.not_false, Bool.not_not, Bool.false_eq_true, if_true, if_false, decide_eq_true_eq, beq_self_eq_true, bool_ft, bool_tf, decide_true, decide_false, reduceCtorEq, cmpNil, cmpRes, boxCells, AV.known, AV.cells, Nat.zero_add, and_self, and_true, true_and, ite_self, forall_const, not_true_eq_false, not_false_eq_true]
    exact no fun e => c3 (by rw [e])
  have d3 : (!(a.t == b.t)) = false := by simpa using c3
  have e3 : (a.t != b.t) = false := by simpa using c3
  simp only [d3, e3, abin_i_add, abin_i_sub, abin_i_mul, abin_i_eql, abin_i_neq, abin_i_lss, abin_i_leq, abin_i_gtr, abin_i_geq, abin_s_eql, abin_s_neq, bnd_some, bnd_none, branch_bool, gwant_bool, gwant_nothing, aguard_some, wantE_some, pickV_bool, nilck_ptr, nilck_elem, aoff_ptr, aoff_elem, aun_not, aun_neg, lenStr_str, lenSl_nils, lenSl_sl, lenSl_osl, aextract_tup, ld1uelem, idxStr_str, amin2uint, amax2uint, rangeStr_str, sliceStr_from, sliceStr_to, List.getElem?_cons_zero, List.getElem?_cons_succ, Option.map_some, Option.bind_some, Int.toNat_natCast, Int.toNat_zero, Int.le_refl, Bool.not_true, Bool.not_false, Bool.not_not, Bool.false_eq_true, if_true, if_false, decide_eq_true_eq, beq_self_eq_true, bool_ft, bool_tf, decide_true, decide_false, reduceCtorEq, cmpNil, cmpRes, boxCells, AV.known, AV.cells, Nat.zero_add, and_self, and_true, true_and, ite_self, forall_const, not_true_eq_false, not_false_eq_true, ld1uptr hp, ld1uptr hq, a4, b4]
  by_cases c4 : a.n = b.n
  case neg =>
    have d : (!(a.n == b.n)) = true := by simpa using c4
    have d' : (a.n != b.n) = true := by simpa using c4
    simp only [d, d', abin_i_add, abin_i_sub, abin_i_mul, abin_i_eql, abin_i_neq, abin_i_lss, abin_i_leq, abin_i_gtr, abin_i_geq, abin_s_eql, abin_s_neq, bnd_some, bnd_none, branch_bool, gwant_bool, gwant_nothing, aguard_some, wantE_some, pickV_bool, nilck_ptr, nilck_elem, aoff_ptr, aoff_elem, aun_not, aun_neg, lenStr_str, lenSl_nils, lenSl_sl, lenSl_osl, aextract_tup, ld1uelem, idxStr_str, amin2uint, amax2uint, rangeStr_str, sliceStr_from, sliceStr_to, List.getElem?_cons_zero, List.getElem?_cons_succ, Option.map_some, Option.bind_some, Int.toNat_natCast, Int.toNat_zero, Int.le_refl, Bool.not_true, Bool.not_false, Bool.not_not, Bool.false_eq_true, if_true, if_false, decide_eq_true_eq, beq_self_eq_true, bool_ft, bool_tf, decide_true, decide_false, reduceCtorEq, cmpNil, cmpRes, boxCells, AV.known, AV.cells, Nat.zero_add, and_self, and_true, true_and, ite_self, forall_const, not_true_eq_false, not_false_eq_true]
    exact no fun e => c4 (by rw [e])
  have d4 : (!(a.n == b.n)) = false := by simpa using c4
  have e4 : (a.n != b.n) = false := by simpa using c4
  simp only [d4, e4, abin_i_add, abin_i_sub, abin_i_mul, abin_i_eql, abin_i_neq, abin_i_lss, abin_i_leq, abin_i_gtr, abin_i_geq, abin_s_eql, abin_s_neq, bnd_some, bnd_none, branch_bool, gwant_bool, gwant_nothing, aguard_some, wantE_some, pickV_bool, nilck_ptr, nilck_elem, aoff_ptr, aoff_elem, aun_not, aun_neg, lenStr_str, lenSl_nils, lenSl_sl, lenSl_osl, aextract_tup, ld1uelem, idxStr_str, amin2uint, amax2uint, rangeStr_str, sliceStr_from, sliceStr_to, List.getElem?_cons_zero, List.getElem?_cons_succ, Option.map_some, Option.bind_some, Int.toNat_natCast, Int.toNat_zero, Int.le_refl, Bool.not_true, Bool.not_false, Bool.not_not, Bool.false_eq_true, if_true, if_false, decide_eq_true_eq, beq_self_eq_true, bool_ft, bool_tf, decide_true, decide_false, reduceCtorEq, cmpNil, cmpRes, boxCells, AV.known, AV.cells, Nat.zero_add, and_self, and_true, true_and, ite_self, forall_const, not_true_eq_false, not_false_eq_true, ld1uptr hp, ld1uptr hq, a5, b5]
  by_cases c5 : a.state = b.state
  case neg =>
    have d : (!(a.state == b.state)) = true := by simpa using c5
    have d' : (a.state != b.state) = true := by simpa using c5
    simp only [d, d', abin_i_add, abin_i_sub, abin_i_mul, abin_i_eql, abin_i_neq, abin_i_lss, abin_i_leq, abin_i_gtr, abin_i_geq, abin_s_eql, abin_s_neq, bnd_some, bnd_none, branch_bool, gwant_bool, gwant_nothing, aguard_some, wantE_some, pickV_bool, nilck_ptr, nilck_elem, aoff_ptr, aoff_elem, aun_not, aun_neg, lenStr_str, lenSl_nils, lenSl_sl, lenSl_osl, aextract_tup, ld1uelem, idxStr_str, amin2uint, amax2uint, rangeStr_str, sliceStr_from, sliceStr_to, List.getElem?_cons_zero, List.getElem?_cons_succ, Option.map_some, Option.bind_some, Int.toNat_natCast, Int.toNat_zero, Int.le_refl, Bool.not_true, Bool.not_false, Bool.not_not, Bool.false_eq_true, if_true, if_false, decide_eq_true_eq, beq_self_eq_true, bool_ft, bool_tf, decide_true, decide_false, reduceCtorEq, cmpNil, cmpRes, boxCells, AV.known, AV.cells, Nat.zero_add, and_self, and_true, true_and, ite_self, forall_const, not_true_eq_false, not_false_eq_true]
    exact no fun e => c5 (by rw [e])
  have d5 : (!(a.state == b.state)) = false := by simpa using c5
  have e5 : (a.state != b.state) = false := by simpa using c5
  simp only [d5, e5, abin_i_add, abin_i_sub, abin_i_mul, abin_i_eql, abin_i_neq, abin_i_lss, abin_i_leq, abin_i_gtr, abin_i_geq, abin_s_eql, abin_s_neq, bnd_some, bnd_none, branch_bool, gwant_bool, gwant_nothing, aguard_some, wantE_some, pickV_bool, nilck_ptr, nilck_elem, aoff_ptr, aoff_elem, aun_not, aun_neg, lenStr_str, lenSl_nils, lenSl_sl, lenSl_osl, aextract_tup, ld1uelem, idxStr_str, amin2uint, amax2uint, rangeStr_str, sliceStr_from, sliceStr_to, List.getElem?_cons_zero, List.getElem?_cons_succ, Option.map_some, Option.bind_some, Int.toNat_natCast, Int.toNat_zero, Int.le_refl, Bool.not_true, Bool.not_false, Bool.not_not, Bool.false_eq_true, if_true, if_false, decide_eq_true_eq, beq_self_eq_true, bool_ft, bool_tf, decide_true, decide_false, reduceCtorEq, cmpNil, cmpRes, boxCells, AV.known, AV.cells, Nat.zero_add, and_self, and_true, true_and, ite_self, forall_const, not_true_eq_false, not_false_eq_true, ld1uptr hp, ld1uptr hq, a6, b6]
  by_cases c6 : a.num = b.num
  case neg =>
    have d : (!(a.num == b.num)) = true := by simpa using c6
    have d' : (a.num != b.num) = true := by simpa using c6
    simp only [d, d', abin_i_add, abin_i_sub, abin_i_mul, abin_i_eql, abin_i_neq, abin_i_lss, abin_i_leq, abin_i_gtr, abin_i_geq, abin_s_eql, abin_s_neq, bnd_some, bnd_none, branch_bool, gwant_bool, gwant_nothing, aguard_some, wantE_some, pickV_bool, nilck_ptr, nilck_elem, aoff_ptr, aoff_elem, aun_not, aun_neg, lenStr_str, lenSl_nils, lenSl_sl, lenSl_osl, aextract_tup, ld1uelem, idxStr_str, amin2uint, amax2uint, rangeStr_str, sliceStr_from, sliceStr_to, List.getElem?_cons_zero, List.getElem?_cons_succ, Option.map_some, Option.bind_some, Int.toNat_natCast, Int.toNat_zero, Int.le_refl, Bool.not_true, Bool.not_false, Bool.not_not, Bool.false_eq_true, if_true, if_false, decide_eq_true_eq, beq_self_eq_true, bool_ft, bool_tf, decide_true, decide_false, reduceCtorEq, cmpNil, cmpRes, boxCells, AV.known, AV.cells, Nat.zero_add, and_self, and_true, true_and, ite_self, forall_const, not_true_eq_false, not_false_eq_true]
    exact no fun e => c6 (by rw [e])
  have d6 : (!(a.num == b.num)) = false := by simpa using c6
  have e6 : (a.num != b.num) = false := by simpa using c6
  simp only [d6, e6, abin_i_add, abin_i_sub, abin_i_mul, abin_i_eql, abin_i_neq, abin_i_lss, abin_i_leq, abin_i_gtr, abin_i_geq, abin_s_eql, abin_s_neq, bnd_some, bnd_none, branch_bool, gwant_bool, gwant_nothing, aguard_some, wantE_some, pickV_bool, nilck_ptr, nilck_elem, aoff_ptr, aoff_elem, aun_not, aun_neg, lenStr_str, lenSl_nils, lenSl_sl, lenSl_osl, aextract_tup, ld1uelem, idxStr_str, amin2uint, amax2uint, rangeStr_str, sliceStr_from, sliceStr_to, List.getElem?_cons_zero, List.getElem?_cons_succ, Option.map_some, Option.bind_some, Int.toNat_natCast, Int.toNat_zero, Int.le_refl, Bool.not_true, Bool.not_false, Bool.not_not, Bool.false_eq_true, if_true, if_false, decide_eq_true_eq, beq_self_eq_true, bool_ft, bool_tf, decide_true, decide_false, reduceCtorEq, cmpNil, cmpRes, boxCells, AV.known, AV.cells, Nat.zero_add, and_self, and_true, true_and, ite_self, forall_const, not_true_eq_false, not_false_eq_true, ld1uptr hp, ld1uptr hq, a7, b7]
  by_cases c7 : a.epoch = b.epoch
  case neg =>
    have d : (!(a.epoch == b.epoch)) = true := by simpa using c7
    have d' : (a.epoch != b.epoch) = true := by simpa using c7
    simp only [d, d', abin_i_add, abin_i_sub, abin_i_mul, abin_i_eql, abin_i_neq, abin_i_lss, abin_i_leq, abin_i_gtr, abin_i_geq, abin_s_eql, abin_s_neq, bnd_some, bnd_none, branch_bool, gwant_bool, gwant_nothing, aguard_some, wantE_some, pickV_bool, nilck_ptr, nilck_elem, aoff_ptr, aoff_elem, aun_not, aun_neg, lenStr_str, lenSl_nils, lenSl_sl, lenSl_osl, aextract_tup, ld1uelem, idxStr_str, amin2uint, amax2uint, rangeStr_str, sliceStr_from, sliceStr_to, List.getElem?_cons_zero, List.getElem?_cons_succ, Option.map_some, Option.bind_some, Int.toNat_natCast, Int.toNat_zero, Int.le_refl, Bool.not_true, Bool.not_false, Bool.not_not, Bool.false_eq_true, if_true, if_false, decide_eq_true_eq, beq_self_eq_true, bool_ft, bool_tf, decide_true, decide_false, reduceCtorEq, cmpNil, cmpRes, boxCells, AV.known, AV.cells, Nat.zero_add, and_self, and_true, true_and, ite_self, forall_const, not_true_eq_false, not_false_eq_true]
    exact no fun e => c7 (by rw [e])
  have d7 : (!(a.epoch == b.epoch)) = false := by simpa using c7
  have e7 : (a.epoch != b.epoch) = false := by simpa using c7
  simp only [d7, e7, abin_i_add, abin_i_sub, abin_i_mul, abin_i_eql, abin_i_neq, abin_i_lss, abin_i_leq, abin_i_gtr, abin_i_geq, abin_s_eql, abin_s_neq, bnd_some, bnd_none, branch_bool, gwant_bool, gwant_nothing, aguard_some, wantE_some, pickV_bool, nilck_ptr, nilck_elem, aoff_ptr, aoff_elem, aun_not, aun_neg, lenStr_str, lenSl_nils, lenSl_sl, lenSl_osl, aextract_tup, ld1uelem, idxStr_str, amin2uint, amax2uint, rangeStr_str, sliceStr_from, sliceStr_to, List.getElem?_cons_zero, List.getElem?_cons_succ, Option.map_some, Option.bind_some, Int.toNat_natCast, Int.toNat_zero, Int.le_refl, Bool.not_true, Bool.not_false, Bool.not_not, Bool.false_eq_true, if_true, if_false, decide_eq_true_eq, beq_self_eq_true, bool_ft, bool_tf, decide_true, decide_false, reduceCtorEq, cmpNil, cmpRes, boxCells, AV.known, AV.cells, Nat.zero_add, and_self, and_true, true_and, ite_self, forall_const, not_true_eq_false, not_false_eq_true, ld1uptr hp, ld1uptr hq, a8, b8, len hva, len hvb]
  by_cases c8 : a.items.length = b.items.length
  case neg =>
    have d' : (((a.items.length : Nat) : Int) != ((b.items.length : Nat) : Int)) = true := by simp only [bne_iff_ne, ne_eq]; omega
    simp only [d', abin_i_add, abin_i_sub, abin_i_mul, abin_i_eql, abin_i_neq, abin_i_lss, abin_i_leq, abin_i_gtr, abin_i_geq, abin_s_eql, abin_s_neq, bnd_some, bnd_none, branch_bool, gwant_bool, gwant_nothing, aguard_some, wantE_some, pickV_bool, nilck_ptr, nilck_elem, aoff_ptr, aoff_elem, aun_not, aun_neg, lenStr_str, lenSl_nils, lenSl_sl, lenSl_osl, aextract_tup, ld1uelem, idxStr_str, amin2uint, amax2uint, rangeStr_str, sliceStr_from, sliceStr_to, List.getElem?_cons_zero, List.getElem?_cons_succ, Option.map_some, Option.bind_some, Int.toNat_natCast, Int.toNat_zero, Int.le_refl, Bool.not_true, Bool.not_false, Bool.not_not, Bool.false_eq_true, if_true, if_false, decide_eq_true_eq, beq_self_eq_true, bool_ft, bool_tf, decide_true, decide_false, reduceCtorEq, cmpNil, cmpRes, boxCells, AV.known, AV.cells, Nat.zero_add, and_self, and_true, true_and, ite_self, forall_const, not_true_eq_false, not_false_eq_true]
    exact no fun e => c8 (by rw [e])
  have d8 : (((a.items.length : Nat) : Int) != ((b.items.length : Nat) : Int)) = false := by simp only [bne_eq_false_iff_eq]; omega
  simp only [d8, abin_i_add, abin_i_sub, abin_i_mul, abin_i_eql, abin_i_neq, abin_i_lss, abin_i_leq, abin_i_gtr, abin_i_geq, abin_s_eql, abin_s_neq, bnd_some, bnd_none, branch_bool, gwant_bool, gwant_nothing, aguard_some, wantE_some, pickV_bool, nilck_ptr, nilck_elem, aoff_ptr, aoff_elem, aun_not, aun_neg, lenStr_str, lenSl_nils, lenSl_sl, lenSl_osl, aextract_tup, ld1uelem, idxStr_str, amin2uint, amax2uint, rangeStr_str, sliceStr_from, sliceStr_to, List.getElem?_cons_zero, List.getElem?_cons_succ, Option.map_some, Option.bind_some, Int.toNat_natCast, Int.toNat_zero, Int.le_refl, Bool.not_true, Bool.not_false, Bool.not_not, Bool.false_eq_true, if_true, if_false, decide_eq_true_eq, beq_self_eq_true, bool_ft, bool_tf, decide_true, decide_false, reduceCtorEq, cmpNil, cmpRes, boxCells, AV.known, AV.cells, Nat.zero_add, and_self, and_true, true_and, ite_self, forall_const, not_true_eq_false, not_false_eq_true, ld1uptr hp, ld1uptr hq, a8, b8, len hva, len hvb]
  refine c_Same_loop a.items b.items ha.2.2.2 hb.2.2.2 c8 hp hq a8 b8 hva hvb ?_ a.items 0 rfl rfl
  have : decide (a.items = b.items) = decide (a = b) := by
    rw [decide_eq_decide]
    obtain ⟨x0, x1, x2, x3, x4, x5, x6, x7, x8⟩ := a
    obtain ⟨y0, y1, y2, y3, y4, y5, y6, y7, y8⟩ := b
    simp only at c0 c1 c2 c3 c4 c5 c6 c7
    subst c0; subst c1; subst c2; subst c3; subst c4; subst c5; subst c6; subst c7
    simp
  rw [this]; exact h'
end Go.Va

/-
  Contracts: steps that are alike; the document's example; the first statement.
-/
set_option linter.unusedVariables false
set_option linter.unusedSimpArgs false
set_option maxRecDepth 100000
namespace Go.Va
theorem ldN9 {H : AH} {p : Nat} {s : Step} {iv : AV} (h : H.get p = some (.cells (stepCells s iv))) : ldN 9 (.ptr p 1) H = some (.agg (msgCells s.msg iv)) := by
  rw [ldN_ptr h 9 1 (by show 1 + 9 ≤ 12; omega)]; rfl
theorem c_SameStep (a b : Step) (ha : MsgSmall a.msg) (hb : MsgSmall b.msg) {va vb : AV} (hva : IsItems va a.msg.items) (hvb : IsItems vb b.msg.items) {H : AH} {K : AV → AH → Prop} (h : ∀ H', Ext H H' → K (.bool (decide (a = b))) H') :
    r_hostlerlaw21uSameStep [.agg (stepCells a va), .agg (stepCells b vb)] H K := by
  have hx : Ext H ((H.add (.cells (stepCells a va))).add (.cells (stepCells b vb))) := ((Ext.refl H).add _).add _
  have hp : ((H.add (.cells (stepCells a va))).add (.cells (stepCells b vb))).get H.next = some (.cells (stepCells a va)) := by rw [get_add_ne _ _ (by simp)]; exact get_add_self _ _
  have hq : ((H.add (.cells (stepCells a va))).add (.cells (stepCells b vb))).get (H.next + 1) = some (.cells (stepCells b vb)) := by
    have := get_add_self (H.add (.cells (stepCells a va))) (.cells (stepCells b vb))
    simpa using this
  simp only [r_hostlerlaw21uSameStep, abin_i_add, abin_i_sub, abin_i_mul, abin_i_eql, abin_i_neq, abin_i_lss, abin_i_leq, abin_i_gtr, abin_i_geq, abin_s_eql, abin_s_neq, bnd_some, bnd_none, branch_bool, gwant_bool, gwant_nothing, aguard_some, wantE_some, pickV_bool, nilck_ptr, nilck_elem, aoff_ptr, aoff_elem, aun_not, aun_neg, lenStr_str, lenSl_nils, lenSl_sl, lenSl_osl, aextract_tup, ld1uelem, idxStr_str, amin2uint, amax2uint, rangeStr_str, sliceStr_from, sliceStr_to, List.getElem?_cons_zero, List.getElem?_cons_succ, Option.map_some, Option.bind_some, Int.toNat_natCast, Int.toNat_zero, Int.le_refl, Bool.not_true, Bool.not_false, Bool.not_not, Bool.false_eq_true, if_true, if_false, decide_eq_true_eq, beq_self_eq_true, bool_ft, bool_tf, decide_true, decide_false, reduceCtorEq, cmpNil, cmpRes, boxCells, AV.known, AV.cells, Nat.zero_add, and_self, and_true, true_and, ite_self, forall_const, not_true_eq_false, not_false_eq_true, next_add]
  generalize hHH : (H.add (.cells (stepCells a va))).add (.cells (stepCells b vb)) = H2 at *
  have no : (a ≠ b) → K (.bool false) H2 := fun hne => by
    have : decide (a = b) = false := by simpa using hne
    rw [this] at h; exact h H2 hx
  have a0 : (stepCells a va)[0]? = some (.int .i64 a.kind) := rfl
  have b0 : (stepCells b vb)[0]? = some (.int .i64 b.kind) := rfl
  have a1 : (stepCells a va)[10]? = some (.int .i64 a.n) := rfl
  have b1 : (stepCells b vb)[10]? = some (.int .i64 b.n) := rfl
  have a2 : (stepCells a va)[11]? = some (.int .i64 a.m) := rfl
  have b2 : (stepCells b vb)[11]? = some (.int .i64 b.m) := rfl
  simp only [ld1uptr hp, ld1uptr hq, a0, b0, abin_i_add, abin_i_sub, abin_i_mul, abin_i_eql, abin_i_neq, abin_i_lss, abin_i_leq, abin_i_gtr, abin_i_geq, abin_s_eql, abin_s_neq, bnd_some, bnd_none, branch_bool, gwant_bool, gwant_nothing, aguard_some, wantE_some, pickV_bool, nilck_ptr, nilck_elem, aoff_ptr, aoff_elem, aun_not, aun_neg, lenStr_str, lenSl_nils, lenSl_sl, lenSl_osl, aextract_tup, ld1uelem, idxStr_str, amin2uint, amax2uint, rangeStr_str, sliceStr_from, sliceStr_to, List.getElem?_cons_zero, List.getElem?_cons_succ, Option.map_some, Option.bind_some, Int.toNat_natCast, Int.toNat_zero, Int.le_refl, Bool.not_true, Bool.not_false, Bool.not_not, Bool.false_eq_true, if_true, if_false, decide_eq_true_eq, beq_self_eq_true, bool_ft, bool_tf, decide_true, decide_false, reduceCtorEq, cmpNil, cmpRes, boxCells, AV.known, AV.cells, Nat.zero_add, and_self, and_true, true_and, ite_self, forall_const, not_true_eq_false, not_false_eq_true]
  by_cases c0 : a.kind = b.kind
  case neg =>
    have d : (a.kind == b.kind) = false := by simpa using c0
    simp only [d, abin_i_add, abin_i_sub, abin_i_mul, abin_i_eql, abin_i_neq, abin_i_lss, abin_i_leq, abin_i_gtr, abin_i_geq, abin_s_eql, abin_s_neq, bnd_some, bnd_none, branch_bool, gwant_bool, gwant_nothing, aguard_some, wantE_some, pickV_bool, nilck_ptr, nilck_elem, aoff_ptr, aoff_elem, aun_not, aun_neg, lenStr_str, lenSl_nils, lenSl_sl, lenSl_osl, aextract_tup, ld1uelem, idxStr_str, amin2uint, amax2uint, rangeStr_str, sliceStr_from, sliceStr_to, List.getElem?_cons_zero, List.getElem?_cons_succ, Option.map_some, Option.bind_some, Int.toNat_natCast, Int.toNat_zero, Int.le_refl, Bool.not_true, Bool.not_false, Bool.not_not, Bool.false_eq_true, if_true, if_false, decide_eq_true_eq, beq_self_eq_true, bool_ft, bool_tf, decide_true, decide_false, reduceCtorEq, cmpNil, cmpRes, boxCells, AV.known, AV.cells, Nat.zero_add, and_self, and_true, true_and, ite_self, forall_const, not_true_eq_false, not_false_eq_true]
    exact no fun e => c0 (by rw [e])
  have d0 : (a.kind == b.kind) = true := by simpa using c0
  simp only [d0, abin_i_add, abin_i_sub, abin_i_mul, abin_i_eql, abin_i_neq, abin_i_lss, abin_i_leq, abin_i_gtr, abin_i_geq, abin_s_eql, abin_s_neq, bnd_some, bnd_none, branch_bool, gwant_bool, gwant_nothing, aguard_some, wantE_some, pickV_bool, nilck_ptr, nilck_elem, aoff_ptr, aoff_elem, aun_not, aun_neg, lenStr_str, lenSl_nils, lenSl_sl, lenSl_osl, aextract_tup, ld1uelem, idxStr_str, amin2uint, amax2uint, rangeStr_str, sliceStr_from, sliceStr_to, List.getElem?_cons_zero, List.getElem?_cons_succ, Option.map_some, Option.bind_some, Int.toNat_natCast, Int.toNat_zero, Int.le_refl, Bool.not_true, Bool.not_false, Bool.not_not, Bool.false_eq_true, if_true, if_false, decide_eq_true_eq, beq_self_eq_true, bool_ft, bool_tf, decide_true, decide_false, reduceCtorEq, cmpNil, cmpRes, boxCells, AV.known, AV.cells, Nat.zero_add, and_self, and_true, true_and, ite_self, forall_const, not_true_eq_false, not_false_eq_true, ld1uptr hp, ld1uptr hq, a1, b1]
  by_cases c1 : a.n = b.n
  case neg =>
    have d : (a.n == b.n) = false := by simpa using c1
    simp only [d, abin_i_add, abin_i_sub, abin_i_mul, abin_i_eql, abin_i_neq, abin_i_lss, abin_i_leq, abin_i_gtr, abin_i_geq, abin_s_eql, abin_s_neq, bnd_some, bnd_none, branch_bool, gwant_bool, gwant_nothing, aguard_some, wantE_some, pickV_bool, nilck_ptr, nilck_elem, aoff_ptr, aoff_elem, aun_not, aun_neg, lenStr_str, lenSl_nils, lenSl_sl, lenSl_osl, aextract_tup, ld1uelem, idxStr_str, amin2uint, amax2uint, rangeStr_str, sliceStr_from, sliceStr_to, List.getElem?_cons_zero, List.getElem?_cons_succ, Option.map_some, Option.bind_some, Int.toNat_natCast, Int.toNat_zero, Int.le_refl, Bool.not_true, Bool.not_false, Bool.not_not, Bool.false_eq_true, if_true, if_false, decide_eq_true_eq, beq_self_eq_true, bool_ft, bool_tf, decide_true, decide_false, reduceCtorEq, cmpNil, cmpRes, boxCells, AV.known, AV.cells, Nat.zero_add, and_self, and_true, true_and, ite_self, forall_const, not_true_eq_false, not_false_eq_true]
    exact no fun e => c1 (by rw [e])
  have d1 : (a.n == b.n) = true := by simpa using c1
  simp only [d1, abin_i_add, abin_i_sub, abin_i_mul, abin_i_eql, abin_i_neq, abin_i_lss, abin_i_leq, abin_i_gtr, abin_i_geq, abin_s_eql, abin_s_neq, bnd_some, bnd_none, branch_bool, gwant_bool, gwant_nothing, aguard_some, wantE_some, pickV_bool, nilck_ptr, nilck_elem, aoff_ptr, aoff_elem, aun_not, aun_neg, lenStr_str, lenSl_nils, lenSl_sl, lenSl_osl, aextract_tup, ld1uelem, idxStr_str, amin2uint, amax2uint, rangeStr_str, sliceStr_from, sliceStr_to, List.getElem?_cons_zero, List.getElem?_cons_succ, Option.map_some, Option.bind_some, Int.toNat_natCast, Int.toNat_zero, Int.le_refl, Bool.not_true, Bool.not_false, Bool.not_not, Bool.false_eq_true, if_true, if_false, decide_eq_true_eq, beq_self_eq_true, bool_ft, bool_tf, decide_true, decide_false, reduceCtorEq, cmpNil, cmpRes, boxCells, AV.known, AV.cells, Nat.zero_add, and_self, and_true, true_and, ite_self, forall_const, not_true_eq_false, not_false_eq_true, ld1uptr hp, ld1uptr hq, a2, b2]
  by_cases c2 : a.m = b.m
  case neg =>
    have d : (a.m == b.m) = false := by simpa using c2
    simp only [d, abin_i_add, abin_i_sub, abin_i_mul, abin_i_eql, abin_i_neq, abin_i_lss, abin_i_leq, abin_i_gtr, abin_i_geq, abin_s_eql, abin_s_neq, bnd_some, bnd_none, branch_bool, gwant_bool, gwant_nothing, aguard_some, wantE_some, pickV_bool, nilck_ptr, nilck_elem, aoff_ptr, aoff_elem, aun_not, aun_neg, lenStr_str, lenSl_nils, lenSl_sl, lenSl_osl, aextract_tup, ld1uelem, idxStr_str, amin2uint, amax2uint, rangeStr_str, sliceStr_from, sliceStr_to, List.getElem?_cons_zero, List.getElem?_cons_succ, Option.map_some, Option.bind_some, Int.toNat_natCast, Int.toNat_zero, Int.le_refl, Bool.not_true, Bool.not_false, Bool.not_not, Bool.false_eq_true, if_true, if_false, decide_eq_true_eq, beq_self_eq_true, bool_ft, bool_tf, decide_true, decide_false, reduceCtorEq, cmpNil, cmpRes, boxCells, AV.known, AV.cells, Nat.zero_add, and_self, and_true, true_and, ite_self, forall_const, not_true_eq_false, not_false_eq_true]
    exact no fun e => c2 (by rw [e])
  have d2 : (a.m == b.m) = true := by simpa using c2
  simp only [d2, abin_i_add, abin_i_sub, abin_i_mul, abin_i_eql, abin_i_neq, abin_i_lss, abin_i_leq, abin_i_gtr, abin_i_geq, abin_s_eql, abin_s_neq, bnd_some, bnd_none, branch_bool, gwant_bool, gwant_nothing, aguard_some, wantE_some, pickV_bool, nilck_ptr, nilck_elem, aoff_ptr, aoff_elem, aun_not, aun_neg, lenStr_str, lenSl_nils, lenSl_sl, lenSl_osl, aextract_tup, ld1uelem, idxStr_str, amin2uint, amax2uint, rangeStr_str, sliceStr_from, sliceStr_to, List.getElem?_cons_zero, List.getElem?_cons_succ, Option.map_some, Option.bind_some, Int.toNat_natCast, Int.toNat_zero, Int.le_refl, Bool.not_true, Bool.not_false, Bool.not_not, Bool.false_eq_true, if_true, if_false, decide_eq_true_eq, beq_self_eq_true, bool_ft, bool_tf, decide_true, decide_false, reduceCtorEq, cmpNil, cmpRes, boxCells, AV.known, AV.cells, Nat.zero_add, and_self, and_true, true_and, ite_self, forall_const, not_true_eq_false, not_false_eq_true, ldN9 hp, ldN9 hq]
  refine c_ref_Same a.msg b.msg ha hb hva hvb fun H3 hx3 => ?_
  have : decide (a.msg = b.msg) = decide (a = b) := by
    rw [decide_eq_decide]
    obtain ⟨x0, x1, x2, x3⟩ := a
    obtain ⟨y0, y1, y2, y3⟩ := b
    simp only at c0 c1 c2
    subst c0; subst c1; subst c2
    simp
  rw [this]
  exact h H3 (hx.trans hx3)
theorem parse_kill : parseS [107, 105, 108, 108, 32, 97, 32, 98] = some [{ kind := 1, msg := { kind := 2, f := [97], t := [98] } }] := by rfl
theorem c_wakes {H : AH} {K : AV → AH → Prop} (h : ∀ H', Ext H H' → K (.bool true) H') : r_hostlerlaw21uwakes [] H K := by
  simp only [r_hostlerlaw21uwakes]
  refine c_script_Parse _ (by decide) (fun l hl H1 v hx hv => ?_) (fun hn => by rw [parse_kill] at hn; cases hn)
  rw [parse_kill] at hl
  cases hl
  obtain ⟨es, hsl, hr⟩ := hv
  obtain ⟨e, rfl⟩ : ∃ e, es = [e] := by
    have := hr.1
    match es, this with
    | [e], _ => exact ⟨e, rfl⟩
  obtain ⟨iv, rfl, hiv⟩ := hr.2 0 e _ rfl rfl
  rcases hsl with ⟨_, h0⟩ | ⟨g, rfl⟩
  · cases h0
  have hiv0 : IsItems iv [] := hiv
  have ei : idxA 12 (.sl g 12 ([AV.agg (stepCells { kind := 1, msg := { kind := 2, f := [97], t := [98] } } iv)].map id)) (.int .i64 0) = some (.elem (stepCells { kind := 1, msg := { kind := 2, f := [97], t := [98] } } iv) 0) := by
    simp [idxA, AV.known, AV.cells]
  have e0 : (stepCells { kind := 1, msg := { kind := 2, f := [97], t := [98] } } iv)[0]? = some (.int .i64 1) := rfl
  have e9 : ldN 9 (.elem (stepCells { kind := 1, msg := { kind := 2, f := [97], t := [98] } } iv) 1) H1 = some (.agg (msgCells { kind := 2, f := [97], t := [98] } iv)) := rfl
  have hlen : (((([AV.agg (stepCells { kind := 1, msg := { kind := 2, f := [97], t := [98] } } iv)].map id).length : Nat) : Int) == 1) = true := rfl
  have est : astruct [(0, 1), (1, 1), (2, 1), (3, 1), (4, 1), (5, 1), (6, 1), (7, 1), (8, 1)] [.int .i64 0, .str [], .str [], .str [], .int .i64 0, .int .i64 0, .int .i64 0, .int .i64 0, .nils] [(0, (.int .i64 2)), (1, (.str [97])), (3, (.str [98]))] = some (.agg (msgCells { kind := 2, f := [97], t := [98] } .nils)) := rfl
  have d0 : ((0 : Int) == 0) = true := rfl
  have d1 : ((1 : Int) == 1) = true := rfl
  simp only [abin_i_add, abin_i_sub, abin_i_mul, abin_i_eql, abin_i_neq, abin_i_lss, abin_i_leq, abin_i_gtr, abin_i_geq, abin_s_eql, abin_s_neq, bnd_some, bnd_none, branch_bool, gwant_bool, gwant_nothing, aguard_some, wantE_some, pickV_bool, nilck_ptr, nilck_elem, aoff_ptr, aoff_elem, aun_not, aun_neg, lenStr_str, lenSl_nils, lenSl_sl, lenSl_osl, aextract_tup, ld1uelem, idxStr_str, amin2uint, amax2uint, rangeStr_str, sliceStr_from, sliceStr_to, List.getElem?_cons_zero, List.getElem?_cons_succ, Option.map_some, Option.bind_some, Int.toNat_natCast, Int.toNat_zero, Int.le_refl, Bool.not_true, Bool.not_false, Bool.not_not, Bool.false_eq_true, if_true, if_false, decide_eq_true_eq, beq_self_eq_true, bool_ft, bool_tf, decide_true, decide_false, reduceCtorEq, cmpNil, cmpRes, boxCells, AV.known, AV.cells, Nat.zero_add, and_self, and_true, true_and, ite_self, forall_const, not_true_eq_false, not_false_eq_true, d0, d1, hlen, ei, e0, e9, est]
  have hms : MsgSmall { kind := 2, f := [97], t := [98] } := ⟨by decide, by decide, by decide, by decide, by simp⟩
  refine c_ref_Same _ _ hms hms hiv0 (.inl ⟨rfl, rfl⟩) fun H2 hx2 => ?_
  simp only [abin_i_add, abin_i_sub, abin_i_mul, abin_i_eql, abin_i_neq, abin_i_lss, abin_i_leq, abin_i_gtr, abin_i_geq, abin_s_eql, abin_s_neq, bnd_some, bnd_none, branch_bool, gwant_bool, gwant_nothing, aguard_some, wantE_some, pickV_bool, nilck_ptr, nilck_elem, aoff_ptr, aoff_elem, aun_not, aun_neg, lenStr_str, lenSl_nils, lenSl_sl, lenSl_osl, aextract_tup, ld1uelem, idxStr_str, amin2uint, amax2uint, rangeStr_str, sliceStr_from, sliceStr_to, List.getElem?_cons_zero, List.getElem?_cons_succ, Option.map_some, Option.bind_some, Int.toNat_natCast, Int.toNat_zero, Int.le_refl, Bool.not_true, Bool.not_false, Bool.not_not, Bool.false_eq_true, if_true, if_false, decide_eq_true_eq, beq_self_eq_true, bool_ft, bool_tf, decide_true, decide_false, reduceCtorEq, cmpNil, cmpRes, boxCells, AV.known, AV.cells, Nat.zero_add, and_self, and_true, true_and, ite_self, forall_const, not_true_eq_false, not_false_eq_true, decide_true]
  exact h H2 (hx.trans hx2)

-- ---------------------------------------------------------------- ScriptNumbers
theorem dig_toNat {n : Nat} (h : n < 10) : (dig n).toNat = 48 + n := by
  unfold dig; simp; omega
theorem isDig_dig {n : Nat} (h : n < 10) : isDig (dig n) = true := by
  simp only [isDig, dig_toNat h, decide_eq_true_eq]; omega
theorem digitsS_spec : ∀ (m n : Nat), n ≤ m → (digitsS n).all isDig = true ∧ numOf (digitsS n) = n ∧ digitsS n ≠ [] ∧ (0 < n → (digitsS n).head? ≠ some 48) ∧ (∀ k, n < 10 ^ (k + 1) → (digitsS n).length ≤ k + 1) := by
  intro m
  induction m with
  | zero =>
    intro n hn; obtain rfl : n = 0 := by omega
    rw [digitsS, dif_pos (by omega)]
    refine ⟨by decide, by decide, by simp, by omega, fun k _ => by simp⟩
  | succ m ih =>
    intro n hn
    rw [digitsS]
    by_cases h : n < 10
    · rw [dif_pos h]
      refine ⟨by simp [isDig_dig h], ?_, by simp, fun hp => ?_, fun k _ => by simp⟩
      · simp only [numOf, List.foldl_cons, List.foldl_nil, numStep, dig_toNat h]; omega
      · simp only [List.head?_cons, ne_eq, Option.some.injEq]
        intro e
        have := congrArg UInt8.toNat e
        rw [dig_toNat h] at this
        have e48 : (48 : UInt8).toNat = 48 := rfl
        omega
    · rw [dif_neg h]
      obtain ⟨h1, h2, h3, h4, h5⟩ := ih (n / 10) (by omega)
      have hm := Nat.mod_lt n (show 10 > 0 by omega)
      refine ⟨by simp [h1, isDig_dig hm], ?_, by simp, fun _ => ?_, fun k hk => ?_⟩
      · have h2' : (digitsS (n / 10)).foldl numStep 0 = n / 10 := h2
        simp only [numOf, List.foldl_append, h2', List.foldl_cons, List.foldl_nil, numStep, dig_toNat hm]; omega
      · have := h4 (by omega)
        cases hd : digitsS (n / 10) with
        | nil => exact absurd hd h3
        | cons a l => rw [hd] at this; simpa using this
      · cases k with
        | zero => simp at hk; omega
        | succ k =>
          have := h5 k (by rw [Nat.pow_succ] at hk; omega)
          simp; omega
theorem number_digits (n : Nat) (h : n < 1000000000) : number (digitsS n) = some n := by
  obtain ⟨h1, h2, h3, h4, h5⟩ := digitsS_spec n n (Nat.le_refl _)
  unfold number
  rw [if_pos, h2]
  refine ⟨h3, h5 8 (by omega), h1, ?_⟩
  by_cases h0 : 0 < n
  · exact .inl (h4 h0)
  · obtain rfl : n = 0 := by omega
    right; rw [digitsS, dif_pos (by omega)]; decide
theorem number_none_dig {s : Bs} (h : s.all isDig = false) : number s = none := by
  unfold number; rw [if_neg]; rintro ⟨_, _, h3, _⟩; rw [h] at h3; cases h3
end Go.Va
