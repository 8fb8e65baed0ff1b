/-
  Contracts: the statement on any text.
-/
import Derived.Test.YtfldcobcnlgapaaGreatDoorCtDStepPk
set_option linter.unusedVariables false
set_option linter.unusedSimpArgs false
set_option maxRecDepth 100000
namespace Go.Va
theorem stepS_small (l : List Bs) (hl : WSmall l) : MsgSmall (stepS l).1.msg := by
  have h0 : MsgSmall ({} : Msg) := ⟨by simp, by simp, by simp, by simp, by simp⟩
  have ht : WSmall l.tail := ⟨by have := hl.1; simp; omega, fun s hs => hl.2 s (List.mem_of_mem_tail hs)⟩
  unfold stepS
  simp only
  repeat' split
  all_goals first | exact h0 | skip
  exact (fieldsW_small _ ⟨l.tail, false⟩ _ ht ⟨by simp, by simp, by simp, by simp, by simp⟩).2
theorem parseL_small : ∀ (L : List Bs) (l : List Step), (∀ s ∈ L, s.length ≤ 900000000) → parseL L = some l → l.length ≤ L.length ∧ ∀ s ∈ l, MsgSmall s.msg
  | [], l, _, h => by simp only [parseL, Option.some.injEq] at h; subst h; exact ⟨by simp, by simp⟩
  | a :: L, l, hL, h => by
    unfold parseL at h
    have hL' : ∀ s ∈ L, s.length ≤ 900000000 := fun s hs => hL s (List.mem_cons_of_mem _ hs)
    split at h
    · obtain ⟨h1, h2⟩ := parseL_small L l hL' h
      exact ⟨by simp; omega, h2⟩
    · split at h
      · obtain ⟨l', hl', rfl⟩ := Option.map_eq_some_iff.1 h
        obtain ⟨h1, h2⟩ := parseL_small L l' hL' hl'
        refine ⟨by simp; omega, fun s hs => ?_⟩
        rcases List.mem_cons.1 hs with rfl | hs
        · exact stepS_small _ (wordsOf_small (hL a (List.mem_cons_self ..)))
        · exact h2 s hs
      · cases h
theorem parse_small {t : Bs} {l : List Step} (ht : t.length ≤ 900000) (h : parseS t = some l) : l.length ≤ 1000000 ∧ ∀ s ∈ l, MsgSmall s.msg := by
  obtain ⟨h1, h2⟩ := parseL_small _ l (fun s hs => by have := splitB_small 10 t s hs; omega) h
  have hcnt : t.count 10 ≤ t.length := List.count_le_length
  have hlen := splitB_length 10 t
  exact ⟨by omega, h2⟩
def encI (n : Int) : AV := .int .i64 n
theorem idx_Ints {v : AV} {l : List Int} (h : IsSl 1 encI v l) {i : Nat} {x : Int} (hx : l[i]? = some x) : idxA 1 v (.int .i64 i) = some (.elem [.int .i64 x] 0) := by
  rcases h with ⟨_, rfl⟩ | ⟨g, rfl⟩
  · simp at hx
  · have h2 : (0 : Int) ≤ (i : Int) := by omega
    have hgi : (l.map encI)[i]? = some (.int .i64 x) := by simp [hx, encI]
    simp only [idxA, h2, Int.toNat_natCast, hgi, if_true, AV.known, AV.cells]
    rfl
def pieces : List Bs := [[114, 117, 110, 32, 102, 32, 120, 32, 97, 32, 49, 32, 50, 10], [114, 117, 110, 32, 102, 32, 120, 32, 97, 32, 49, 32, 50, 32, 98, 32, 51, 32, 52, 10], [107, 105, 108, 108, 32, 102, 32, 97, 10], [115, 104, 117, 116, 32, 102, 10], [97, 99, 107, 32, 102, 32, 97, 32, 49, 32, 49, 10], [97, 115, 107, 32, 102, 10], [97, 115, 107, 32, 102, 32, 97, 32, 98, 10], [119, 101, 108, 99, 111, 109, 101, 10], [104, 101, 108, 108, 111, 32, 102, 32, 120, 32, 49, 10], [114, 101, 112, 111, 114, 116, 32, 102, 32, 120, 32, 49, 32, 97, 32, 51, 10], [103, 111, 110, 101, 32, 102, 32, 120, 32, 49, 10], [116, 105, 99, 107, 32, 48, 10], [102, 117, 115, 101, 32, 51, 10], [99, 114, 97, 115, 104, 32, 50, 10], [99, 114, 97, 115, 104, 32, 50, 32, 53, 10], [10], [32], [116, 105, 99, 107], [32, 55], [120], [48, 48], [114, 117, 110, 32, 102, 32, 120, 32, 97, 32, 48, 32, 48, 10], [114, 101, 112, 111, 114, 116, 32, 102, 32, 120, 32, 49, 32, 97, 32, 56, 10], [97, 115, 107, 32, 102, 32, 97, 32, 97, 10]]
theorem pieces_len : ∀ p ∈ pieces, p.length ≤ 20 := by decide
section
variable {K : AV → AH → Prop} {H : AH}
theorem c_Text_loop {v : AV} {picks : List Int} (hv : IsSl 1 encI v picks) (h : ∀ t : Bs, t.length ≤ 1000 → K (.str t) H) :
    ∀ (n i : Nat) (t : Bs), n + i = 14 → t.length ≤ 20 * i → LoopP (r_hostlerlaw21uText_p500 K) [v, .sl .full 1 (pieces.map .str), .str t, .int .i64 i] H := by
  intro n
  induction n with
  | zero =>
    intro i t hin htl
    obtain rfl : i = 14 := by omega
    refine .fold ?_
    have hk := h t (by omega)
    simp only [r_hostlerlaw21uText_p500, hv.len, abin_i_add, abin_i_sub, abin_i_mul, abin_i_eql, abin_i_neq, abin_i_lss, abin_i_leq, abin_i_gtr, abin_i_geq, abin_s_eql, abin_s_neq, bnd_some, bnd_none, branch_bool, gwant_bool, gwant_nothing, aguard_some, wantE_some, pickV_bool, nilck_ptr, nilck_elem, aoff_ptr, aoff_elem, aun_not, aun_neg, lenStr_str, lenSl_nils, lenSl_sl, lenSl_osl, aextract_tup, ld1uelem, idxStr_str, amin2uint, amax2uint, rangeStr_str, sliceStr_from, sliceStr_to, List.getElem?_cons_zero, List.getElem?_cons_succ, Option.map_some, Option.bind_some, Int.toNat_natCast, Int.toNat_zero, Int.le_refl, Bool.not_true, Bool.not_false, Bool.not_not, Bool.false_eq_true, if_true, if_false, decide_eq_true_eq, beq_self_eq_true, bool_ft, bool_tf, decide_true, decide_false, reduceCtorEq, cmpNil, cmpRes, boxCells, AV.known, AV.cells, Nat.zero_add, and_self, and_true, true_and, ite_self, forall_const, not_true_eq_false, not_false_eq_true]
    by_cases hlt : (((14 : Nat) : Int)) < (picks.length : Int)
    · have h14 : ¬ ((((14 : Nat) : Int)) < 14) := by omega
      simp only [abin_i_add, abin_i_sub, abin_i_mul, abin_i_eql, abin_i_neq, abin_i_lss, abin_i_leq, abin_i_gtr, abin_i_geq, abin_s_eql, abin_s_neq, bnd_some, bnd_none, branch_bool, gwant_bool, gwant_nothing, aguard_some, wantE_some, pickV_bool, nilck_ptr, nilck_elem, aoff_ptr, aoff_elem, aun_not, aun_neg, lenStr_str, lenSl_nils, lenSl_sl, lenSl_osl, aextract_tup, ld1uelem, idxStr_str, amin2uint, amax2uint, rangeStr_str, sliceStr_from, sliceStr_to, List.getElem?_cons_zero, List.getElem?_cons_succ, Option.map_some, Option.bind_some, Int.toNat_natCast, Int.toNat_zero, Int.le_refl, Bool.not_true, Bool.not_false, Bool.not_not, Bool.false_eq_true, if_true, if_false, decide_eq_true_eq, beq_self_eq_true, bool_ft, bool_tf, decide_true, decide_false, reduceCtorEq, cmpNil, cmpRes, boxCells, AV.known, AV.cells, Nat.zero_add, and_self, and_true, true_and, ite_self, forall_const, not_true_eq_false, not_false_eq_true, hlt, h14]
      exact hk
    · simp only [abin_i_add, abin_i_sub, abin_i_mul, abin_i_eql, abin_i_neq, abin_i_lss, abin_i_leq, abin_i_gtr, abin_i_geq, abin_s_eql, abin_s_neq, bnd_some, bnd_none, branch_bool, gwant_bool, gwant_nothing, aguard_some, wantE_some, pickV_bool, nilck_ptr, nilck_elem, aoff_ptr, aoff_elem, aun_not, aun_neg, lenStr_str, lenSl_nils, lenSl_sl, lenSl_osl, aextract_tup, ld1uelem, idxStr_str, amin2uint, amax2uint, rangeStr_str, sliceStr_from, sliceStr_to, List.getElem?_cons_zero, List.getElem?_cons_succ, Option.map_some, Option.bind_some, Int.toNat_natCast, Int.toNat_zero, Int.le_refl, Bool.not_true, Bool.not_false, Bool.not_not, Bool.false_eq_true, if_true, if_false, decide_eq_true_eq, beq_self_eq_true, bool_ft, bool_tf, decide_true, decide_false, reduceCtorEq, cmpNil, cmpRes, boxCells, AV.known, AV.cells, Nat.zero_add, and_self, and_true, true_and, ite_self, forall_const, not_true_eq_false, not_false_eq_true, hlt]
      exact hk
  | succ n ih =>
    intro i t hin htl
    refine .fold ?_
    have hk := h t (by omega)
    simp only [r_hostlerlaw21uText_p500, hv.len, abin_i_add, abin_i_sub, abin_i_mul, abin_i_eql, abin_i_neq, abin_i_lss, abin_i_leq, abin_i_gtr, abin_i_geq, abin_s_eql, abin_s_neq, bnd_some, bnd_none, branch_bool, gwant_bool, gwant_nothing, aguard_some, wantE_some, pickV_bool, nilck_ptr, nilck_elem, aoff_ptr, aoff_elem, aun_not, aun_neg, lenStr_str, lenSl_nils, lenSl_sl, lenSl_osl, aextract_tup, ld1uelem, idxStr_str, amin2uint, amax2uint, rangeStr_str, sliceStr_from, sliceStr_to, List.getElem?_cons_zero, List.getElem?_cons_succ, Option.map_some, Option.bind_some, Int.toNat_natCast, Int.toNat_zero, Int.le_refl, Bool.not_true, Bool.not_false, Bool.not_not, Bool.false_eq_true, if_true, if_false, decide_eq_true_eq, beq_self_eq_true, bool_ft, bool_tf, decide_true, decide_false, reduceCtorEq, cmpNil, cmpRes, boxCells, AV.known, AV.cells, Nat.zero_add, and_self, and_true, true_and, ite_self, forall_const, not_true_eq_false, not_false_eq_true]
    by_cases hlt : (i : Int) < (picks.length : Int)
    · have h14 : (i : Int) < 14 := by omega
      have hx : picks[i]? = some (picks[i]'(by omega)) := List.getElem?_eq_getElem _
      generalize picks[i]'(by omega) = x at hx
      have hpl : (pieces.map AV.str).length = 24 := rfl
      simp only [abin_i_add, abin_i_sub, abin_i_mul, abin_i_eql, abin_i_neq, abin_i_lss, abin_i_leq, abin_i_gtr, abin_i_geq, abin_s_eql, abin_s_neq, bnd_some, bnd_none, branch_bool, gwant_bool, gwant_nothing, aguard_some, wantE_some, pickV_bool, nilck_ptr, nilck_elem, aoff_ptr, aoff_elem, aun_not, aun_neg, lenStr_str, lenSl_nils, lenSl_sl, lenSl_osl, aextract_tup, ld1uelem, idxStr_str, amin2uint, amax2uint, rangeStr_str, sliceStr_from, sliceStr_to, List.getElem?_cons_zero, List.getElem?_cons_succ, Option.map_some, Option.bind_some, Int.toNat_natCast, Int.toNat_zero, Int.le_refl, Bool.not_true, Bool.not_false, Bool.not_not, Bool.false_eq_true, if_true, if_false, decide_eq_true_eq, beq_self_eq_true, bool_ft, bool_tf, decide_true, decide_false, reduceCtorEq, cmpNil, cmpRes, boxCells, AV.known, AV.cells, Nat.zero_add, and_self, and_true, true_and, ite_self, forall_const, not_true_eq_false, not_false_eq_true, hlt, h14, idx_Ints hv hx, hpl]
      refine c_Within x 24 (by decide) ?_
      have hw := within_lt x 24 (by decide)
      generalize within x 24 = j at hw
      have hp : pieces[j]? = some (pieces[j]'hw) := List.getElem?_eq_getElem _
      have hpm := pieces_len _ (List.mem_of_getElem? hp)
      generalize pieces[j]'hw = p at hp hpm
      have hadd : t.length + p.length ≤ 9223372036854775807 := by omega
      simp only [abin_i_add, abin_i_sub, abin_i_mul, abin_i_eql, abin_i_neq, abin_i_lss, abin_i_leq, abin_i_gtr, abin_i_geq, abin_s_eql, abin_s_neq, bnd_some, bnd_none, branch_bool, gwant_bool, gwant_nothing, aguard_some, wantE_some, pickV_bool, nilck_ptr, nilck_elem, aoff_ptr, aoff_elem, aun_not, aun_neg, lenStr_str, lenSl_nils, lenSl_sl, lenSl_osl, aextract_tup, ld1uelem, idxStr_str, amin2uint, amax2uint, rangeStr_str, sliceStr_from, sliceStr_to, List.getElem?_cons_zero, List.getElem?_cons_succ, Option.map_some, Option.bind_some, Int.toNat_natCast, Int.toNat_zero, Int.le_refl, Bool.not_true, Bool.not_false, Bool.not_not, Bool.false_eq_true, if_true, if_false, decide_eq_true_eq, beq_self_eq_true, bool_ft, bool_tf, decide_true, decide_false, reduceCtorEq, cmpNil, cmpRes, boxCells, AV.known, AV.cells, Nat.zero_add, and_self, and_true, true_and, ite_self, forall_const, not_true_eq_false, not_false_eq_true, idx_strs hp, abin_s_add, hadd, i_succ (show i < 9223372036854775807 by omega)]
      exact ih (i + 1) (t ++ p) (by omega) (by simp; omega)
    · simp only [abin_i_add, abin_i_sub, abin_i_mul, abin_i_eql, abin_i_neq, abin_i_lss, abin_i_leq, abin_i_gtr, abin_i_geq, abin_s_eql, abin_s_neq, bnd_some, bnd_none, branch_bool, gwant_bool, gwant_nothing, aguard_some, wantE_some, pickV_bool, nilck_ptr, nilck_elem, aoff_ptr, aoff_elem, aun_not, aun_neg, lenStr_str, lenSl_nils, lenSl_sl, lenSl_osl, aextract_tup, ld1uelem, idxStr_str, amin2uint, amax2uint, rangeStr_str, sliceStr_from, sliceStr_to, List.getElem?_cons_zero, List.getElem?_cons_succ, Option.map_some, Option.bind_some, Int.toNat_natCast, Int.toNat_zero, Int.le_refl, Bool.not_true, Bool.not_false, Bool.not_not, Bool.false_eq_true, if_true, if_false, decide_eq_true_eq, beq_self_eq_true, bool_ft, bool_tf, decide_true, decide_false, reduceCtorEq, cmpNil, cmpRes, boxCells, AV.known, AV.cells, Nat.zero_add, and_self, and_true, true_and, ite_self, forall_const, not_true_eq_false, not_false_eq_true, hlt]
      exact hk
theorem c_Text (s : Bs) {v : AV} {picks : List Int} (hv : IsSl 1 encI v picks) (raw : Bool) (h : ∀ t : Bs, t.length ≤ 1000 → K (.str t) H) : r_hostlerlaw21uText [.str s, v, .bool raw] H K := by
  cases raw with
  | true =>
    simp only [r_hostlerlaw21uText, abin_i_add, abin_i_sub, abin_i_mul, abin_i_eql, abin_i_neq, abin_i_lss, abin_i_leq, abin_i_gtr, abin_i_geq, abin_s_eql, abin_s_neq, bnd_some, bnd_none, branch_bool, gwant_bool, gwant_nothing, aguard_some, wantE_some, pickV_bool, nilck_ptr, nilck_elem, aoff_ptr, aoff_elem, aun_not, aun_neg, lenStr_str, lenSl_nils, lenSl_sl, lenSl_osl, aextract_tup, ld1uelem, idxStr_str, amin2uint, amax2uint, rangeStr_str, sliceStr_from, sliceStr_to, List.getElem?_cons_zero, List.getElem?_cons_succ, Option.map_some, Option.bind_some, Int.toNat_natCast, Int.toNat_zero, Int.le_refl, Bool.not_true, Bool.not_false, Bool.not_not, Bool.false_eq_true, if_true, if_false, decide_eq_true_eq, beq_self_eq_true, bool_ft, bool_tf, decide_true, decide_false, reduceCtorEq, cmpNil, cmpRes, boxCells, AV.known, AV.cells, Nat.zero_add, and_self, and_true, true_and, ite_self, forall_const, not_true_eq_false, not_false_eq_true]
    exact c_keep_Text s 90 (h _ (by simp; omega))
  | false =>
    simp only [r_hostlerlaw21uText, abin_i_add, abin_i_sub, abin_i_mul, abin_i_eql, abin_i_neq, abin_i_lss, abin_i_leq, abin_i_gtr, abin_i_geq, abin_s_eql, abin_s_neq, bnd_some, bnd_none, branch_bool, gwant_bool, gwant_nothing, aguard_some, wantE_some, pickV_bool, nilck_ptr, nilck_elem, aoff_ptr, aoff_elem, aun_not, aun_neg, lenStr_str, lenSl_nils, lenSl_sl, lenSl_osl, aextract_tup, ld1uelem, idxStr_str, amin2uint, amax2uint, rangeStr_str, sliceStr_from, sliceStr_to, List.getElem?_cons_zero, List.getElem?_cons_succ, Option.map_some, Option.bind_some, Int.toNat_natCast, Int.toNat_zero, Int.le_refl, Bool.not_true, Bool.not_false, Bool.not_not, Bool.false_eq_true, if_true, if_false, decide_eq_true_eq, beq_self_eq_true, bool_ft, bool_tf, decide_true, decide_false, reduceCtorEq, cmpNil, cmpRes, boxCells, AV.known, AV.cells, Nat.zero_add, and_self, and_true, true_and, ite_self, forall_const, not_true_eq_false, not_false_eq_true]
    show LoopP _ [v, .sl .full 1 (pieces.map .str), .str [], .int .i64 ((0 : Nat) : Int)] H
    exact c_Text_loop hv h 14 0 [] rfl (by simp)
theorem under4 : PP.underlying 4 = some .bool := by kernel_rfl
theorem abin_bool (a b : Bool) : abin PP .eql 4 (.bool a) (.bool b) = some (.bool (a == b)) := by
  have hd : Op.maxDepth = (Op.maxDepth - 1) + 1 := rfl
  simp only [abin]
  rw [hd, aeqIn]
  · rfl
  · exact under4
theorem abin_ff : abin PP .eql 4 (.bool false) (.bool false) = some (.bool true) := abin_bool _ _
theorem abin_tt : abin PP .eql 4 (.bool true) (.bool true) = some (.bool true) := abin_bool _ _
theorem abin_same (b : Bool) : abin PP .eql 4 (.bool b) (.bool b) = some (.bool true) := by
  cases b
  · exact abin_ff
  · exact abin_tt
theorem c_ScriptParses (s : Bs) {v : AV} {picks : List Int} (hv : IsSl 1 encI v picks) (raw : Bool) (h : ∀ H', Ext H H' → K (.bool true) H') : r_hostlerlaw21uScriptParses [.str s, v, .bool raw] H K := by
  simp only [r_hostlerlaw21uScriptParses]
  refine c_Text s hv raw fun t ht => ?_
  have hnum : ∀ n : Int, (n == n) = true := fun n => by simp
  cases hp : parseS t with
  | some l =>
    obtain ⟨hll, hls⟩ := parse_small (by omega) hp
    refine c_script_Parse t (by omega) (fun l1 hl1 H1 va hx1 hva => ?_) (fun hn => by rw [hp] at hn; cases hn)
    rw [hp] at hl1; cases hl1
    simp only [abin_i_add, abin_i_sub, abin_i_mul, abin_i_eql, abin_i_neq, abin_i_lss, abin_i_leq, abin_i_gtr, abin_i_geq, abin_s_eql, abin_s_neq, bnd_some, bnd_none, branch_bool, gwant_bool, gwant_nothing, aguard_some, wantE_some, pickV_bool, nilck_ptr, nilck_elem, aoff_ptr, aoff_elem, aun_not, aun_neg, lenStr_str, lenSl_nils, lenSl_sl, lenSl_osl, aextract_tup, ld1uelem, idxStr_str, amin2uint, amax2uint, rangeStr_str, sliceStr_from, sliceStr_to, List.getElem?_cons_zero, List.getElem?_cons_succ, Option.map_some, Option.bind_some, Int.toNat_natCast, Int.toNat_zero, Int.le_refl, Bool.not_true, Bool.not_false, Bool.not_not, Bool.false_eq_true, if_true, if_false, decide_eq_true_eq, beq_self_eq_true, bool_ft, bool_tf, decide_true, decide_false, reduceCtorEq, cmpNil, cmpRes, boxCells, AV.known, AV.cells, Nat.zero_add, and_self, and_true, true_and, ite_self, forall_const, not_true_eq_false, not_false_eq_true]
    refine c_dParse t (by omega) (fun l2 hl2 H2 vb hx2 hvb => ?_) (fun hn => by rw [hp] at hn; cases hn)
    rw [hp] at hl2; cases hl2
    simp only [abin_i_add, abin_i_sub, abin_i_mul, abin_i_eql, abin_i_neq, abin_i_lss, abin_i_leq, abin_i_gtr, abin_i_geq, abin_s_eql, abin_s_neq, bnd_some, bnd_none, branch_bool, gwant_bool, gwant_nothing, aguard_some, wantE_some, pickV_bool, nilck_ptr, nilck_elem, aoff_ptr, aoff_elem, aun_not, aun_neg, lenStr_str, lenSl_nils, lenSl_sl, lenSl_osl, aextract_tup, ld1uelem, idxStr_str, amin2uint, amax2uint, rangeStr_str, sliceStr_from, sliceStr_to, List.getElem?_cons_zero, List.getElem?_cons_succ, Option.map_some, Option.bind_some, Int.toNat_natCast, Int.toNat_zero, Int.le_refl, Bool.not_true, Bool.not_false, Bool.not_not, Bool.false_eq_true, if_true, if_false, decide_eq_true_eq, beq_self_eq_true, bool_ft, bool_tf, decide_true, decide_false, reduceCtorEq, cmpNil, cmpRes, boxCells, AV.known, AV.cells, Nat.zero_add, and_self, and_true, true_and, ite_self, forall_const, not_true_eq_false, not_false_eq_true]
    refine c_keep_Text s 12 ?_
    refine c_script_Number _ (by simp; omega) fun H3 hx3 => ?_
    simp only [abin_i_add, abin_i_sub, abin_i_mul, abin_i_eql, abin_i_neq, abin_i_lss, abin_i_leq, abin_i_gtr, abin_i_geq, abin_s_eql, abin_s_neq, bnd_some, bnd_none, branch_bool, gwant_bool, gwant_nothing, aguard_some, wantE_some, pickV_bool, nilck_ptr, nilck_elem, aoff_ptr, aoff_elem, aun_not, aun_neg, lenStr_str, lenSl_nils, lenSl_sl, lenSl_osl, aextract_tup, ld1uelem, idxStr_str, amin2uint, amax2uint, rangeStr_str, sliceStr_from, sliceStr_to, List.getElem?_cons_zero, List.getElem?_cons_succ, Option.map_some, Option.bind_some, Int.toNat_natCast, Int.toNat_zero, Int.le_refl, Bool.not_true, Bool.not_false, Bool.not_not, Bool.false_eq_true, if_true, if_false, decide_eq_true_eq, beq_self_eq_true, bool_ft, bool_tf, decide_true, decide_false, reduceCtorEq, cmpNil, cmpRes, boxCells, AV.known, AV.cells, Nat.zero_add, and_self, and_true, true_and, ite_self, forall_const, not_true_eq_false, not_false_eq_true]
    refine c_keep_Text s 12 ?_
    refine c_dNumber _ ?_
    simp only [abin_i_add, abin_i_sub, abin_i_mul, abin_i_eql, abin_i_neq, abin_i_lss, abin_i_leq, abin_i_gtr, abin_i_geq, abin_s_eql, abin_s_neq, bnd_some, bnd_none, branch_bool, gwant_bool, gwant_nothing, aguard_some, wantE_some, pickV_bool, nilck_ptr, nilck_elem, aoff_ptr, aoff_elem, aun_not, aun_neg, lenStr_str, lenSl_nils, lenSl_sl, lenSl_osl, aextract_tup, ld1uelem, idxStr_str, amin2uint, amax2uint, rangeStr_str, sliceStr_from, sliceStr_to, List.getElem?_cons_zero, List.getElem?_cons_succ, Option.map_some, Option.bind_some, Int.toNat_natCast, Int.toNat_zero, Int.le_refl, Bool.not_true, Bool.not_false, Bool.not_not, Bool.false_eq_true, if_true, if_false, decide_eq_true_eq, beq_self_eq_true, bool_ft, bool_tf, decide_true, decide_false, reduceCtorEq, cmpNil, cmpRes, boxCells, AV.known, AV.cells, Nat.zero_add, and_self, and_true, true_and, ite_self, forall_const, not_true_eq_false, not_false_eq_true, show ((0 : Int) == 0) = true from rfl, abin_tt, hnum]
    refine c_SameSteps l (by omega) hls hva hvb fun H4 hx4 => ?_
    simp only [abin_i_add, abin_i_sub, abin_i_mul, abin_i_eql, abin_i_neq, abin_i_lss, abin_i_leq, abin_i_gtr, abin_i_geq, abin_s_eql, abin_s_neq, bnd_some, bnd_none, branch_bool, gwant_bool, gwant_nothing, aguard_some, wantE_some, pickV_bool, nilck_ptr, nilck_elem, aoff_ptr, aoff_elem, aun_not, aun_neg, lenStr_str, lenSl_nils, lenSl_sl, lenSl_osl, aextract_tup, ld1uelem, idxStr_str, amin2uint, amax2uint, rangeStr_str, sliceStr_from, sliceStr_to, List.getElem?_cons_zero, List.getElem?_cons_succ, Option.map_some, Option.bind_some, Int.toNat_natCast, Int.toNat_zero, Int.le_refl, Bool.not_true, Bool.not_false, Bool.not_not, Bool.false_eq_true, if_true, if_false, decide_eq_true_eq, beq_self_eq_true, bool_ft, bool_tf, decide_true, decide_false, reduceCtorEq, cmpNil, cmpRes, boxCells, AV.known, AV.cells, Nat.zero_add, and_self, and_true, true_and, ite_self, forall_const, not_true_eq_false, not_false_eq_true, abin_same]
    refine c_wakes fun H5 hx5 => ?_
    exact h H5 ((((hx1.trans hx2).trans hx3).trans hx4).trans hx5)
  | none =>
    refine c_script_Parse t (by omega) (fun l1 hl1 => by rw [hp] at hl1; cases hl1) (fun _ H1 hx1 => ?_)
    simp only [abin_i_add, abin_i_sub, abin_i_mul, abin_i_eql, abin_i_neq, abin_i_lss, abin_i_leq, abin_i_gtr, abin_i_geq, abin_s_eql, abin_s_neq, bnd_some, bnd_none, branch_bool, gwant_bool, gwant_nothing, aguard_some, wantE_some, pickV_bool, nilck_ptr, nilck_elem, aoff_ptr, aoff_elem, aun_not, aun_neg, lenStr_str, lenSl_nils, lenSl_sl, lenSl_osl, aextract_tup, ld1uelem, idxStr_str, amin2uint, amax2uint, rangeStr_str, sliceStr_from, sliceStr_to, List.getElem?_cons_zero, List.getElem?_cons_succ, Option.map_some, Option.bind_some, Int.toNat_natCast, Int.toNat_zero, Int.le_refl, Bool.not_true, Bool.not_false, Bool.not_not, Bool.false_eq_true, if_true, if_false, decide_eq_true_eq, beq_self_eq_true, bool_ft, bool_tf, decide_true, decide_false, reduceCtorEq, cmpNil, cmpRes, boxCells, AV.known, AV.cells, Nat.zero_add, and_self, and_true, true_and, ite_self, forall_const, not_true_eq_false, not_false_eq_true]
    refine c_dParse t (by omega) (fun l2 hl2 => by rw [hp] at hl2; cases hl2) (fun _ H2 hx2 => ?_)
    simp only [abin_i_add, abin_i_sub, abin_i_mul, abin_i_eql, abin_i_neq, abin_i_lss, abin_i_leq, abin_i_gtr, abin_i_geq, abin_s_eql, abin_s_neq, bnd_some, bnd_none, branch_bool, gwant_bool, gwant_nothing, aguard_some, wantE_some, pickV_bool, nilck_ptr, nilck_elem, aoff_ptr, aoff_elem, aun_not, aun_neg, lenStr_str, lenSl_nils, lenSl_sl, lenSl_osl, aextract_tup, ld1uelem, idxStr_str, amin2uint, amax2uint, rangeStr_str, sliceStr_from, sliceStr_to, List.getElem?_cons_zero, List.getElem?_cons_succ, Option.map_some, Option.bind_some, Int.toNat_natCast, Int.toNat_zero, Int.le_refl, Bool.not_true, Bool.not_false, Bool.not_not, Bool.false_eq_true, if_true, if_false, decide_eq_true_eq, beq_self_eq_true, bool_ft, bool_tf, decide_true, decide_false, reduceCtorEq, cmpNil, cmpRes, boxCells, AV.known, AV.cells, Nat.zero_add, and_self, and_true, true_and, ite_self, forall_const, not_true_eq_false, not_false_eq_true]
    refine c_keep_Text s 12 ?_
    refine c_script_Number _ (by simp; omega) fun H3 hx3 => ?_
    simp only [abin_i_add, abin_i_sub, abin_i_mul, abin_i_eql, abin_i_neq, abin_i_lss, abin_i_leq, abin_i_gtr, abin_i_geq, abin_s_eql, abin_s_neq, bnd_some, bnd_none, branch_bool, gwant_bool, gwant_nothing, aguard_some, wantE_some, pickV_bool, nilck_ptr, nilck_elem, aoff_ptr, aoff_elem, aun_not, aun_neg, lenStr_str, lenSl_nils, lenSl_sl, lenSl_osl, aextract_tup, ld1uelem, idxStr_str, amin2uint, amax2uint, rangeStr_str, sliceStr_from, sliceStr_to, List.getElem?_cons_zero, List.getElem?_cons_succ, Option.map_some, Option.bind_some, Int.toNat_natCast, Int.toNat_zero, Int.le_refl, Bool.not_true, Bool.not_false, Bool.not_not, Bool.false_eq_true, if_true, if_false, decide_eq_true_eq, beq_self_eq_true, bool_ft, bool_tf, decide_true, decide_false, reduceCtorEq, cmpNil, cmpRes, boxCells, AV.known, AV.cells, Nat.zero_add, and_self, and_true, true_and, ite_self, forall_const, not_true_eq_false, not_false_eq_true]
    refine c_keep_Text s 12 ?_
    refine c_dNumber _ ?_
    simp only [abin_i_add, abin_i_sub, abin_i_mul, abin_i_eql, abin_i_neq, abin_i_lss, abin_i_leq, abin_i_gtr, abin_i_geq, abin_s_eql, abin_s_neq, bnd_some, bnd_none, branch_bool, gwant_bool, gwant_nothing, aguard_some, wantE_some, pickV_bool, nilck_ptr, nilck_elem, aoff_ptr, aoff_elem, aun_not, aun_neg, lenStr_str, lenSl_nils, lenSl_sl, lenSl_osl, aextract_tup, ld1uelem, idxStr_str, amin2uint, amax2uint, rangeStr_str, sliceStr_from, sliceStr_to, List.getElem?_cons_zero, List.getElem?_cons_succ, Option.map_some, Option.bind_some, Int.toNat_natCast, Int.toNat_zero, Int.le_refl, Bool.not_true, Bool.not_false, Bool.not_not, Bool.false_eq_true, if_true, if_false, decide_eq_true_eq, beq_self_eq_true, bool_ft, bool_tf, decide_true, decide_false, reduceCtorEq, cmpNil, cmpRes, boxCells, AV.known, AV.cells, Nat.zero_add, and_self, and_true, true_and, ite_self, forall_const, not_true_eq_false, not_false_eq_true, show ((2 : Int) == 0) = false from rfl, show ((2 : Int) == 2) = true from rfl, abin_ff, hnum]
    have hz : IsSteps .nils [] := ⟨[], .inl ⟨rfl, rfl⟩, Rel2.nil _⟩
    refine c_SameSteps [] (by simp) (by simp) hz hz fun H4 hx4 => ?_
    simp only [abin_i_add, abin_i_sub, abin_i_mul, abin_i_eql, abin_i_neq, abin_i_lss, abin_i_leq, abin_i_gtr, abin_i_geq, abin_s_eql, abin_s_neq, bnd_some, bnd_none, branch_bool, gwant_bool, gwant_nothing, aguard_some, wantE_some, pickV_bool, nilck_ptr, nilck_elem, aoff_ptr, aoff_elem, aun_not, aun_neg, lenStr_str, lenSl_nils, lenSl_sl, lenSl_osl, aextract_tup, ld1uelem, idxStr_str, amin2uint, amax2uint, rangeStr_str, sliceStr_from, sliceStr_to, List.getElem?_cons_zero, List.getElem?_cons_succ, Option.map_some, Option.bind_some, Int.toNat_natCast, Int.toNat_zero, Int.le_refl, Bool.not_true, Bool.not_false, Bool.not_not, Bool.false_eq_true, if_true, if_false, decide_eq_true_eq, beq_self_eq_true, bool_ft, bool_tf, decide_true, decide_false, reduceCtorEq, cmpNil, cmpRes, boxCells, AV.known, AV.cells, Nat.zero_add, and_self, and_true, true_and, ite_self, forall_const, not_true_eq_false, not_false_eq_true, abin_same]
    refine c_wakes fun H5 hx5 => ?_
    exact h H5 ((((hx1.trans hx2).trans hx3).trans hx4).trans hx5)
end
end Go.Va
