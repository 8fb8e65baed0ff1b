/-
  Contracts: the statements' own helps: numbers within, digits, messages that are alike.
-/
import Derived.Test.YtfldcobcnlgapaaDoorCtParse
set_option linter.unusedVariables false
set_option linter.unusedSimpArgs false
set_option maxRecDepth 100000
namespace Go.Va
/-- v as one from 0 to n - 1 -/
def within (v : Int) (n : Nat) : Nat := if n < 1 then 0 else (if v.tmod n < 0 then v.tmod n + n else v.tmod n).toNat
theorem within_lt (v : Int) (n : Nat) (h : 0 < n) : within v n < n := by
  unfold within
  rw [if_neg (by omega)]
  have h1 := Int.lt_tmod_of_pos v (show (0 : Int) < n by omega)
  have h2 := Int.tmod_lt_of_pos v (show (0 : Int) < n by omega)
  split <;> omega
theorem c_Within (v : Int) (n : Nat) (hn : (n : Int) ≤ 9223372036854775807) {H : AH} {K : AV → AH → Prop} (h : K (.int .i64 (within v n)) H) : r_hostlerkeep_Within [.int .i64 v, .int .i64 n] H K := by
  unfold within at h
  by_cases h0 : n < 1
  · rw [if_pos h0] at h
    have e : decide ((n : Int) < 1) = true := by simp; omega
    have h : K (.int .i64 0) H := h
    simpa only [r_hostlerkeep_Within, abin_i_add, abin_i_sub, abin_i_mul, abin_i_eql, abin_i_neq, abin_i_lss, abin_i_leq, abin_i_gtr, abin_i_geq, abin_s_eql, abin_s_neq, bnd_some, bnd_none, branch_bool, gwant_bool, gwant_nothing, aguard_some, wantE_some, pickV_bool, nilck_ptr, nilck_elem, aoff_ptr, aoff_elem, aun_not, aun_neg, lenStr_str, lenSl_nils, lenSl_sl, lenSl_osl, aextract_tup, ld1uelem, idxStr_str, amin2uint, amax2uint, rangeStr_str, sliceStr_from, sliceStr_to, List.getElem?_cons_zero, List.getElem?_cons_succ, Option.map_some, Option.bind_some, Int.toNat_natCast, Int.toNat_zero, Int.le_refl, Bool.not_true, Bool.not_false, Bool.not_not, Bool.false_eq_true, if_true, if_false, decide_eq_true_eq, beq_self_eq_true, bool_ft, bool_tf, decide_true, decide_false, reduceCtorEq, cmpNil, cmpRes, boxCells, AV.known, AV.cells, Nat.zero_add, and_self, and_true, true_and, ite_self, forall_const, not_true_eq_false, not_false_eq_true, e] using h
  · rw [if_neg h0] at h
    have e : decide ((n : Int) < 1) = false := by simp; omega
    have ne : ¬ ((n : Int) = 0) := by omega
    have h1 := Int.lt_tmod_of_pos v (show (0 : Int) < n by omega)
    have h2 := Int.tmod_lt_of_pos v (show (0 : Int) < n by omega)
    simp only [r_hostlerkeep_Within, abin_i_add, abin_i_sub, abin_i_mul, abin_i_eql, abin_i_neq, abin_i_lss, abin_i_leq, abin_i_gtr, abin_i_geq, abin_s_eql, abin_s_neq, bnd_some, bnd_none, branch_bool, gwant_bool, gwant_nothing, aguard_some, wantE_some, pickV_bool, nilck_ptr, nilck_elem, aoff_ptr, aoff_elem, aun_not, aun_neg, lenStr_str, lenSl_nils, lenSl_sl, lenSl_osl, aextract_tup, ld1uelem, idxStr_str, amin2uint, amax2uint, rangeStr_str, sliceStr_from, sliceStr_to, List.getElem?_cons_zero, List.getElem?_cons_succ, Option.map_some, Option.bind_some, Int.toNat_natCast, Int.toNat_zero, Int.le_refl, Bool.not_true, Bool.not_false, Bool.not_not, Bool.false_eq_true, if_true, if_false, decide_eq_true_eq, beq_self_eq_true, bool_ft, bool_tf, decide_true, decide_false, reduceCtorEq, cmpNil, cmpRes, boxCells, AV.known, AV.cells, Nat.zero_add, and_self, and_true, true_and, ite_self, forall_const, not_true_eq_false, not_false_eq_true, e, abin_i_rem, ne]
    by_cases h3 : v.tmod n < 0
    · rw [if_pos h3, Int.toNat_of_nonneg (by omega)] at h
      have e3 : decide (v.tmod n < 0) = true := by simpa using h3
      simp only [abin_i_add, abin_i_sub, abin_i_mul, abin_i_eql, abin_i_neq, abin_i_lss, abin_i_leq, abin_i_gtr, abin_i_geq, abin_s_eql, abin_s_neq, bnd_some, bnd_none, branch_bool, gwant_bool, gwant_nothing, aguard_some, wantE_some, pickV_bool, nilck_ptr, nilck_elem, aoff_ptr, aoff_elem, aun_not, aun_neg, lenStr_str, lenSl_nils, lenSl_sl, lenSl_osl, aextract_tup, ld1uelem, idxStr_str, amin2uint, amax2uint, rangeStr_str, sliceStr_from, sliceStr_to, List.getElem?_cons_zero, List.getElem?_cons_succ, Option.map_some, Option.bind_some, Int.toNat_natCast, Int.toNat_zero, Int.le_refl, Bool.not_true, Bool.not_false, Bool.not_not, Bool.false_eq_true, if_true, if_false, decide_eq_true_eq, beq_self_eq_true, bool_ft, bool_tf, decide_true, decide_false, reduceCtorEq, cmpNil, cmpRes, boxCells, AV.known, AV.cells, Nat.zero_add, and_self, and_true, true_and, ite_self, forall_const, not_true_eq_false, not_false_eq_true, r_hostlerkeep_Within_p31, h3]
      rw [wrap_i64 (by omega) (by omega)]; exact h
    · rw [if_neg h3, Int.toNat_of_nonneg (by omega)] at h
      have e3 : decide (v.tmod n < 0) = false := by simpa using h3
      simp only [abin_i_add, abin_i_sub, abin_i_mul, abin_i_eql, abin_i_neq, abin_i_lss, abin_i_leq, abin_i_gtr, abin_i_geq, abin_s_eql, abin_s_neq, bnd_some, bnd_none, branch_bool, gwant_bool, gwant_nothing, aguard_some, wantE_some, pickV_bool, nilck_ptr, nilck_elem, aoff_ptr, aoff_elem, aun_not, aun_neg, lenStr_str, lenSl_nils, lenSl_sl, lenSl_osl, aextract_tup, ld1uelem, idxStr_str, amin2uint, amax2uint, rangeStr_str, sliceStr_from, sliceStr_to, List.getElem?_cons_zero, List.getElem?_cons_succ, Option.map_some, Option.bind_some, Int.toNat_natCast, Int.toNat_zero, Int.le_refl, Bool.not_true, Bool.not_false, Bool.not_not, Bool.false_eq_true, if_true, if_false, decide_eq_true_eq, beq_self_eq_true, bool_ft, bool_tf, decide_true, decide_false, reduceCtorEq, cmpNil, cmpRes, boxCells, AV.known, AV.cells, Nat.zero_add, and_self, and_true, true_and, ite_self, forall_const, not_true_eq_false, not_false_eq_true, r_hostlerkeep_Within_p31, h3]
      exact h

-- ---------------------------------------------------------------- digits
def dig (n : Nat) : UInt8 := UInt8.ofNat (48 + n)
def digitsS (n : Nat) : Bs := if h : n < 10 then [dig n] else digitsS (n / 10) ++ [dig (n % 10)]
  termination_by n
  decreasing_by omega
theorem digitsS_len : ∀ (m n : Nat), n ≤ m → (digitsS n).length ≤ n + 1 := by
  intro m
  induction m with
  | zero => intro n hn; obtain rfl : n = 0 := by omega
            rw [digitsS, dif_pos (by omega)]; simp
  | succ m ih =>
    intro n hn
    rw [digitsS]
    split
    · simp
    · have := ih (n / 10) (by omega)
      simp only [List.length_append, List.length_cons, List.length_nil]; omega
theorem cut_digit : ∀ n, n < 10 → (([48, 49, 50, 51, 52, 53, 54, 55, 56, 57] : Bs).drop n).take 1 = [dig n] := by decide
theorem c_dig (n : Nat) (h : n < 10) (K : AV → Prop) (k : K (.str [dig n])) :
    bnd (sliceStr (.str [48, 49, 50, 51, 52, 53, 54, 55, 56, 57]) (some (.int .i64 n)) none none) fun t => bnd (sliceStr t none (some (.int .i64 1)) none) K := by
  have e1 : (0 : Int) ≤ (n : Int) ∧ (n : Int) ≤ ((([48, 49, 50, 51, 52, 53, 54, 55, 56, 57] : Bs).length : Nat) : Int) := by
    constructor
    · omega
    · show (n : Int) ≤ 10; omega
  have e2 : (0 : Int) ≤ 1 ∧ (1 : Int) ≤ (((([48, 49, 50, 51, 52, 53, 54, 55, 56, 57] : Bs).drop n).length : Nat) : Int) := by
    rw [List.length_drop]
    constructor
    · omega
    · show (1 : Int) ≤ ((10 - n : Nat) : Int); omega
  simp only [sliceStr_from, e1, and_self, if_true, bnd_some, sliceStr_to, Int.toNat_natCast, e2, Int.toNat_one, cut_digit n h]
  exact k
theorem c_digits : ∀ (m n : Nat), n ≤ m → n < 9223372036854775807 → ∀ {H : AH} {K : AV → AH → Prop}, K (.str (digitsS n)) H → r_hostlerlaw21udigits [.int .i64 n] H K := by
  intro m
  induction m with
  | zero =>
    intro n hn hb H K h
    obtain rfl : n = 0 := by omega
    refine FixP.fold ?_
    simp only [b_hostlerlaw21udigits, abin_i_add, abin_i_sub, abin_i_mul, abin_i_eql, abin_i_neq, abin_i_lss, abin_i_leq, abin_i_gtr, abin_i_geq, abin_s_eql, abin_s_neq, bnd_some, bnd_none, branch_bool, gwant_bool, gwant_nothing, aguard_some, wantE_some, pickV_bool, nilck_ptr, nilck_elem, aoff_ptr, aoff_elem, aun_not, aun_neg, lenStr_str, lenSl_nils, lenSl_sl, lenSl_osl, aextract_tup, ld1uelem, idxStr_str, amin2uint, amax2uint, rangeStr_str, sliceStr_from, sliceStr_to, List.getElem?_cons_zero, List.getElem?_cons_succ, Option.map_some, Option.bind_some, Int.toNat_natCast, Int.toNat_zero, Int.le_refl, Bool.not_true, Bool.not_false, Bool.not_not, Bool.false_eq_true, if_true, if_false, decide_eq_true_eq, beq_self_eq_true, bool_ft, bool_tf, decide_true, decide_false, reduceCtorEq, cmpNil, cmpRes, boxCells, AV.known, AV.cells, Nat.zero_add, and_self, and_true, true_and, ite_self, forall_const, not_true_eq_false, not_false_eq_true, show decide (((0 : Nat) : Int) < 10) = true from rfl]
    rw [digitsS, dif_pos (by omega)] at h
    exact c_dig 0 (by omega) (fun t => K t H) h
  | succ m ih =>
    intro n hn hb H K h
    refine FixP.fold ?_
    by_cases h10 : n < 10
    · have e : decide ((n : Int) < 10) = true := by simp; omega
      rw [digitsS, dif_pos h10] at h
      simp only [b_hostlerlaw21udigits, abin_i_lss, bnd_some, e, branch_bool, if_true]
      exact c_dig n h10 (fun t => K t H) h
    · have e : decide ((n : Int) < 10) = false := by simp; omega
      rw [digitsS, dif_neg h10] at h
      have hq : IntKind.i64.wrap ((n : Int).tdiv 10) = ((n / 10 : Nat) : Int) := by
        have : (n : Int).tdiv 10 = ((n / 10 : Nat) : Int) := (Int.ofNat_tdiv n 10).symm
        rw [this, wrap_i64 (by omega) (by omega)]
      have hr : (n : Int).tmod 10 = ((n % 10 : Nat) : Int) := by
        exact (Int.ofNat_tmod n 10).symm
      simp only [b_hostlerlaw21udigits, abin_i_lss, bnd_some, e, branch_bool, Bool.false_eq_true, if_false, abin_i_quo, abin_i_rem, show ((10 : Int) = 0) = False from by decide, hq, hr]
      refine c_dig (n % 10) (by omega) (fun t => r_hostlerlaw21udigits [.int .i64 ((n / 10 : Nat) : Int)] H fun a H9 => bnd (abin PP .add 9 a t) fun x => K x H9) ?_
      refine ih (n / 10) (by omega) (by omega) ?_
      have hlen : (digitsS (n / 10)).length + [dig (n % 10)].length ≤ 9223372036854775807 := by
        have := digitsS_len _ (n / 10) (Nat.le_refl _)
        simp only [List.length_cons, List.length_nil]; omega
      simp only [abin_s_add, hlen, if_true, bnd_some]
      exact h

-- ---------------------------------------------------------------- messages that are alike
theorem eqItems (x y : Item) (hx : ItemSmall x) (hy : ItemSmall y) : eqAgg .neq [(0, .str), (1, .cplx)] (encItem x) (encItem y) = some (.bool !(decide (x = y))) := by
  obtain ⟨t, a, b⟩ := x
  obtain ⟨t', a', b'⟩ := y
  have ha := floatEqv_fl a a' hx.1 hy.1
  have hb := floatEqv_fl b b' hx.2.1 hy.2.1
  simp only [eqAgg, encItem, eqL, List.getElem?_cons_zero, List.getElem?_cons_succ, eq1, if_true, ha, hb]
  by_cases h1 : t = t'
  · subst h1
    simp only [beq_self_eq_true]
    by_cases h2 : a = a'
    · by_cases h3 : b = b'
      · subst h2; subst h3; simp [cmpRes]
      · simp [cmpRes, h2, h3]
    · simp [cmpRes, h2]
  · have : (t == t') = false := by simpa using h1
    simp [this, cmpRes, h1]
theorem c_Same_loop (a b : List Item) (ha : ItemsSmall a) (hb : ItemsSmall b) (hl : a.length = b.length) {p q : Nat} {pc qc : List AV} {va vb : AV} {H : AH} (hp : H.get p = some (.cells pc)) (hq : H.get q = some (.cells qc)) (hpc : pc[8]? = some va) (hqc : qc[8]? = some vb) (hva : IsItems va a) (hvb : IsItems vb b) {K : AV → AH → Prop}
    (h : K (.bool (decide (a = b))) H) : ∀ (r : List Item) (i : Nat), a.drop i = r → (decide (a.drop i = b.drop i) = decide (a = b)) → LoopP (r_hostlerref01uSame_p116 K) [.ptr p 0, .ptr q 0, .int .i64 a.length, .int .i64 i] H
  | [], i, hr, he => by
    refine .fold ?_
    have hi : a.length ≤ i := by simpa using hr
    have hlt : ¬ ((i : Int) < (a.length : Int)) := by omega
    have hd : b.drop i = [] := List.drop_eq_nil_of_le (by omega)
    rw [← he, hr, hd] at h
    simpa [r_hostlerref01uSame_p116, hlt] using h
  | x :: r, i, hr, he => by
    refine .fold ?_
    have hx : a[i]? = some x := by
      have := congrArg (fun l => l[0]?) hr
      simpa using this
    have hlt : i < a.length := (List.getElem?_eq_some_iff.1 hx).1
    have hr' : a.drop (i + 1) = r := by rw [← List.drop_drop, hr]; rfl
    have hy : b[i]? = some (b[i]'(by omega)) := List.getElem?_eq_getElem _
    have hyd : b.drop i = b[i]'(by omega) :: b.drop (i + 1) := List.drop_eq_getElem_cons (by omega)
    have hal := ha.1
    have h1 : ((i : Int) < (a.length : Int)) := by omega
    have h2 : (0 : Int) ≤ (i : Int) := by omega
    have hww : IntKind.i64.wrap ((i : Int) + 1) = ((i + 1 : Nat) : Int) := by rw [wrap_i64 (by omega) (by omega)]; omega
    obtain ⟨g1, rfl⟩ : ∃ g, va = .sl g 2 (a.map encItem) := by
      rcases hva with ⟨_, rfl⟩ | hv
      · simp at hlt
      · exact hv
    obtain ⟨g2, rfl⟩ : ∃ g, vb = .sl g 2 (b.map encItem) := by
      rcases hvb with ⟨_, hb0⟩ | hv
      · rw [hb0] at hl; simp at hl; rw [hl] at hlt; simp at hlt
      · exact hv
    have hga : (a.map encItem)[i]? = some (encItem x) := by simp [hx]
    have hgb : (b.map encItem)[i]? = some (encItem (b[i]'(by omega))) := by simp [hy]
    have hld : ∀ z : Item, ldN 2 (.elem (encItem z).cells 0) H = some (encItem z) := fun z => by simp [ldN, encItem, AV.cells]
    have hk : ∀ z : Item, (encItem z).known = true := fun z => rfl
    have hes := eqItems x (b[i]'(by omega)) (ha.2 x (List.mem_of_getElem? hx)) (hb.2 _ (List.getElem_mem _))
    simp only [r_hostlerref01uSame_p116, abin_i_lss, bnd_some, branch_bool, decide_eq_true_eq, h1, if_true, aoff_ptr, Nat.zero_add, ld1uptr hp, ld1uptr hq, hpc, hqc, idxA, h2, and_self, Int.toNat_natCast, hga, hgb, Option.bind_some, hk, hld, hes, abin_i_add, hww]
    by_cases hxy : x = b[i]'(by omega)
    · have e : (!decide (x = b[i]'(by omega))) = false := by simp [hxy]
      simp only [e, Bool.false_eq_true, if_false]
      refine c_Same_loop a b ha hb hl hp hq hpc hqc hva hvb h r (i + 1) hr' ?_
      rw [← he, hr, hr', hyd, decide_eq_decide, List.cons.injEq]
      exact ⟨fun h => ⟨hxy, h⟩, fun h => h.2⟩
    · have e : (!decide (x = b[i]'(by omega))) = true := by simp [hxy]
      simp only [e, if_true]
      have : decide (a = b) = false := by
        rw [← he, hr, hyd, decide_eq_false_iff_not, List.cons.injEq]; exact fun h => hxy h.1
      rw [this] at h; exact h
theorem c_ref_Same (a b : Msg) (ha : MsgSmall a) (hb : MsgSmall b) {va vb : AV} (hva : IsItems va a.items) (hvb : IsItems vb b.items) {H : AH} {K : AV → AH → Prop} (h : ∀ H', Ext H H' → K (.bool (decide (a = b))) H') :
    r_hostlerref01uSame [.agg (msgCells a va), .agg (msgCells b vb)] H K := by
  have h' := h ((H.add (.cells (msgCells a va))).add (.cells (msgCells b vb))) (((Ext.refl H).add _).add _)
  have hp : ((H.add (.cells (msgCells a va))).add (.cells (msgCells b vb))).get H.next = some (.cells (msgCells a va)) := by rw [get_add_ne _ _ (by simp)]; exact get_add_self _ _
  have hq : ((H.add (.cells (msgCells a va))).add (.cells (msgCells b vb))).get (H.next + 1) = some (.cells (msgCells b vb)) := by
    have := get_add_self (H.add (.cells (msgCells a va))) (.cells (msgCells b vb))
    simpa using this
  have len : ∀ {v : AV} {l : List Item}, IsItems v l → lenSl v = some (.int .i64 l.length) := by
    intro v l hv
    rcases hv with ⟨rfl, rfl⟩ | ⟨g, rfl⟩ <;> simp
  simp only [r_hostlerref01uSame, abin_i_add, abin_i_sub, abin_i_mul, abin_i_eql, abin_i_neq, abin_i_lss, abin_i_leq, abin_i_gtr, abin_i_geq, abin_s_eql, abin_s_neq, bnd_some, bnd_none, branch_bool, gwant_bool, gwant_nothing, aguard_some, wantE_some, pickV_bool, nilck_ptr, nilck_elem, aoff_ptr, aoff_elem, aun_not, aun_neg, lenStr_str, lenSl_nils, lenSl_sl, lenSl_osl, aextract_tup, ld1uelem, idxStr_str, amin2uint, amax2uint, rangeStr_str, sliceStr_from, sliceStr_to, List.getElem?_cons_zero, List.getElem?_cons_succ, Option.map_some, Option.bind_some, Int.toNat_natCast, Int.toNat_zero, Int.le_refl, Bool.not_true, Bool.not_false, Bool.not_not, Bool.false_eq_true, if_true, if_false, decide_eq_true_eq, beq_self_eq_true, bool_ft, bool_tf, decide_true, decide_false, reduceCtorEq, cmpNil, cmpRes, boxCells, AV.known, AV.cells, Nat.zero_add, and_self, and_true, true_and, ite_self, forall_const, not_true_eq_false, not_false_eq_true, next_add]
  generalize hHH : (H.add (.cells (msgCells a va))).add (.cells (msgCells b vb)) = H2 at *
  have no : (a ≠ b) → K (.bool false) H2 := fun hne => by
    have : decide (a = b) = false := by simpa using hne
    rw [this] at h'; exact h'
  have a0 : (msgCells a va)[0]? = some (.int .i64 a.kind) := rfl
  have b0 : (msgCells b vb)[0]? = some (.int .i64 b.kind) := rfl
  have a1 : (msgCells a va)[1]? = some (.str a.f) := rfl
  have b1 : (msgCells b vb)[1]? = some (.str b.f) := rfl
  have a2 : (msgCells a va)[2]? = some (.str a.e) := rfl
  have b2 : (msgCells b vb)[2]? = some (.str b.e) := rfl
  have a3 : (msgCells a va)[3]? = some (.str a.t) := rfl
  have b3 : (msgCells b vb)[3]? = some (.str b.t) := rfl
  have a4 : (msgCells a va)[4]? = some (.int .i64 a.n) := rfl
  have b4 : (msgCells b vb)[4]? = some (.int .i64 b.n) := rfl
  have a5 : (msgCells a va)[5]? = some (.int .i64 a.state) := rfl
  have b5 : (msgCells b vb)[5]? = some (.int .i64 b.state) := rfl
  have a6 : (msgCells a va)[6]? = some (.int .i64 a.num) := rfl
  have b6 : (msgCells b vb)[6]? = some (.int .i64 b.num) := rfl
  have a7 : (msgCells a va)[7]? = some (.int .i64 a.epoch) := rfl
  have b7 : (msgCells b vb)[7]? = some (.int .i64 b.epoch) := rfl
  have a8 : (msgCells a va)[8]? = some va := rfl
  have b8 : (msgCells b vb)[8]? = some vb := rfl
  simp only [ld1uptr hp, ld1uptr hq, a0, b0, abin_i_add, abin_i_sub, abin_i_mul, abin_i_eql, abin_i_neq, abin_i_lss, abin_i_leq, abin_i_gtr, abin_i_geq, abin_s_eql, abin_s_neq, bnd_some, bnd_none, branch_bool, gwant_bool, gwant_nothing, aguard_some, wantE_some, pickV_bool, nilck_ptr, nilck_elem, aoff_ptr, aoff_elem, aun_not, aun_neg, lenStr_str, lenSl_nils, lenSl_sl, lenSl_osl, aextract_tup, ld1uelem, idxStr_str, amin2uint, amax2uint, rangeStr_str, sliceStr_from, sliceStr_to, List.getElem?_cons_zero, List.getElem?_cons_succ, Option.map_some, Option.bind_some, Int.toNat_natCast, Int.toNat_zero, Int.le_refl, Bool.not_true, Bool.not_false, Bool.not_not, Bool.false_eq_true, if_true, if_false, decide_eq_true_eq, beq_self_eq_true, bool_ft, bool_tf, decide_true, decide_false, reduceCtorEq, cmpNil, cmpRes, boxCells, AV.known, AV.cells, Nat.zero_add, and_self, and_true, true_and, ite_self, forall_const, not_true_eq_false, not_false_eq_true]
  by_cases c0 : a.kind = b.kind
  case neg =>
    have d : (!(a.kind == b.kind)) = true := by simpa using c0
    have d' : (a.kind != b.kind) = true := by simpa using c0
    simp only [d, d', abin_i_add, abin_i_sub, abin_i_mul, abin_i_eql, abin_i_neq, abin_i_lss, abin_i_leq, abin_i_gtr, abin_i_geq, abin_s_eql, abin_s_neq, bnd_some, bnd_none, branch_bool, gwant_bool, gwant_nothing, aguard_some, wantE_some, pickV_bool, nilck_ptr, nilck_elem, aoff_ptr, aoff_elem, aun_not, aun_neg, lenStr_str, lenSl_nils, lenSl_sl, lenSl_osl, aextract_tup, ld1uelem, idxStr_str, amin2uint, amax2uint, rangeStr_str, sliceStr_from, sliceStr_to, List.getElem?_cons_zero, List.getElem?_cons_succ, Option.map_some, Option.bind_some, Int.toNat_natCast, Int.toNat_zero, Int.le_refl, Bool.not_true, Bool.not_false, Bool.not_not, Bool.false_eq_true, if_true, if_false, decide_eq_true_eq, beq_self_eq_true, bool_ft, bool_tf, decide_true, decide_false, reduceCtorEq, cmpNil, cmpRes, boxCells, AV.known, AV.cells, Nat.zero_add, and_self, and_true, true_and, ite_self, forall_const, not_true_eq_false, not_false_eq_true]
    exact no fun e => c0 (by rw [e])
  have d0 : (!(a.kind == b.kind)) = false := by simpa using c0
  have e0 : (a.kind != b.kind) = false := by simpa using c0
  simp only [d0, e0, abin_i_add, abin_i_sub, abin_i_mul, abin_i_eql, abin_i_neq, abin_i_lss, abin_i_leq, abin_i_gtr, abin_i_geq, abin_s_eql, abin_s_neq, bnd_some, bnd_none, branch_bool, gwant_bool, gwant_nothing, aguard_some, wantE_some, pickV_bool, nilck_ptr, nilck_elem, aoff_ptr, aoff_elem, aun_not, aun_neg, lenStr_str, lenSl_nils, lenSl_sl, lenSl_osl, aextract_tup, ld1uelem, idxStr_str, amin2uint, amax2uint, rangeStr_str, sliceStr_from, sliceStr_to, List.getElem?_cons_zero, List.getElem?_cons_succ, Option.map_some, Option.bind_some, Int.toNat_natCast, Int.toNat_zero, Int.le_refl, Bool.not_true, Bool.not_false, Bool.not_not, Bool.false_eq_true, if_true, if_false, decide_eq_true_eq, beq_self_eq_true, bool_ft, bool_tf, decide_true, decide_false, reduceCtorEq, cmpNil, cmpRes, boxCells, AV.known, AV.cells, Nat.zero_add, and_self, and_true, true_and, ite_self, forall_const, not_true_eq_false, not_false_eq_true, ld1uptr hp, ld1uptr hq, a1, b1]
  by_cases c1 : a.f = b.f
  case neg =>
    have d : (!(a.f == b.f)) = true := by simpa using c1
    have d' : (a.f != b.f) = true := by simpa using c1
    simp only [d, d', abin_i_add, abin_i_sub, abin_i_mul, abin_i_eql, abin_i_neq, abin_i_lss, abin_i_leq, abin_i_gtr, abin_i_geq, abin_s_eql, abin_s_neq, bnd_some, bnd_none, branch_bool, gwant_bool, gwant_nothing, aguard_some, wantE_some, pickV_bool, nilck_ptr, nilck_elem, aoff_ptr, aoff_elem, aun_not, aun_neg, lenStr_str, lenSl_nils, lenSl_sl, lenSl_osl, aextract_tup, ld1uelem, idxStr_str, amin2uint, amax2uint, rangeStr_str, sliceStr_from, sliceStr_to, List.getElem?_cons_zero, List.getElem?_cons_succ, Option.map_some, Option.bind_some, Int.toNat_natCast, Int.toNat_zero, Int.le_refl, Bool.not_true, Bool.not_false, Bool.not_not, Bool.false_eq_true, if_true, if_false, decide_eq_true_eq, beq_self_eq_true, bool_ft, bool_tf, decide_true, decide_false, reduceCtorEq, cmpNil, cmpRes, boxCells, AV.known, AV.cells, Nat.zero_add, and_self, and_true, true_and, ite_self, forall_const, not_true_eq_false, not_false_eq_true]
    exact no fun e => c1 (by rw [e])
  have d1 : (!(a.f == b.f)) = false := by simpa using c1
  have e1 : (a.f != b.f) = false := by simpa using c1
  simp only [d1, e1, abin_i_add, abin_i_sub, abin_i_mul, abin_i_eql, abin_i_neq, abin_i_lss, abin_i_leq, abin_i_gtr, abin_i_geq, abin_s_eql, abin_s_neq, bnd_some, bnd_none, branch_bool, gwant_bool, gwant_nothing, aguard_some, wantE_some, pickV_bool, nilck_ptr, nilck_elem, aoff_ptr, aoff_elem, aun_not, aun_neg, lenStr_str, lenSl_nils, lenSl_sl, lenSl_osl, aextract_tup, ld1uelem, idxStr_str, amin2uint, amax2uint, rangeStr_str, sliceStr_from, sliceStr_to, List.getElem?_cons_zero, List.getElem?_cons_succ, Option.map_some, Option.bind_some, Int.toNat_natCast, Int.toNat_zero, Int.le_refl, Bool.not_true, Bool.not_false, Bool.not_not, Bool.false_eq_true, if_true, if_false, decide_eq_true_eq, beq_self_eq_true, bool_ft, bool_tf, decide_true, decide_false, reduceCtorEq, cmpNil, cmpRes, boxCells, AV.known, AV.cells, Nat.zero_add, and_self, and_true, true_and, ite_self, forall_const, not_true_eq_false, not_false_eq_true, ld1uptr hp, ld1uptr hq, a2, b2]
  by_cases c2 : a.e = b.e
  case neg =>
    have d : (!(a.e == b.e)) = true := by simpa using c2
    have d' : (a.e != b.e) = true := by simpa using c2
    simp only [d, d', abin_i_add, abin_i_sub, abin_i_mul, abin_i_eql, abin_i_neq, abin_i_lss, abin_i_leq, abin_i_gtr, abin_i_geq, abin_s_eql, abin_s_neq, bnd_some, bnd_none, branch_bool, gwant_bool, gwant_nothing, aguard_some, wantE_some, pickV_bool, nilck_ptr, nilck_elem, aoff_ptr, aoff_elem, aun_not, aun_neg, lenStr_str, lenSl_nils, lenSl_sl, lenSl_osl, aextract_tup, ld1uelem, idxStr_str, amin2uint, amax2uint, rangeStr_str, sliceStr_from, sliceStr_to, List.getElem?_cons_zero, List.getElem?_cons_succ, Option.map_some, Option.bind_some, Int.toNat_natCast, Int.toNat_zero, Int.le_refl, Bool.not_true, Bool.not_false, Bool.not_not, Bool.false_eq_true, if_true, if_false, decide_eq_true_eq, beq_self_eq_true, bool_ft, bool_tf, decide_true, decide_false, reduceCtorEq, cmpNil, cmpRes, boxCells, AV.known, AV.cells, Nat.zero_add, and_self, and_true, true_and, ite_self, forall_const, not_true_eq_false, not_false_eq_true]
    exact no fun e => c2 (by rw [e])
  have d2 : (!(a.e == b.e)) = false := by simpa using c2
  have e2 : (a.e != b.e) = false := by simpa using c2
  simp only [d2, e2, abin_i_add, abin_i_sub, abin_i_mul, abin_i_eql, abin_i_neq, abin_i_lss, abin_i_leq, abin_i_gtr, abin_i_geq, abin_s_eql, abin_s_neq, bnd_some, bnd_none, branch_bool, gwant_bool, gwant_nothing, aguard_some, wantE_some, pickV_bool, nilck_ptr, nilck_elem, aoff_ptr, aoff_elem, aun_not, aun_neg, lenStr_str, lenSl_nils, lenSl_sl, lenSl_osl, aextract_tup, ld1uelem, idxStr_str, amin2uint, amax2uint, rangeStr_str, sliceStr_from, sliceStr_to, List.getElem?_cons_zero, List.getElem?_cons_succ, Option.map_some, Option.bind_some, Int.toNat_natCast, Int.toNat_zero, Int.le_refl, Bool.not_true, Bool.not_false, Bool.not_not, Bool.false_eq_true, if_true, if_false, decide_eq_true_eq, beq_self_eq_true, bool_ft, bool_tf, decide_true, decide_false, reduceCtorEq, cmpNil, cmpRes, boxCells, AV.known, AV.cells, Nat.zero_add, and_self, and_true, true_and, ite_self, forall_const, not_true_eq_false, not_false_eq_true, ld1uptr hp, ld1uptr hq, a3, b3]
  by_cases c3 : a.t = b.t
  case neg =>
    have d : (!(a.t == b.t)) = true := by simpa using c3
    have d' : (a.t != b.t) = true := by simpa using c3
    simp only [d, d', abin_i_add, abin_i_sub, abin_i_mul, abin_i_eql, abin_i_neq, abin_i_lss, abin_i_leq, abin_i_gtr, abin_i_geq, abin_s_eql, abin_s_neq, bnd_some, bnd_none, branch_bool, gwant_bool, gwant_nothing, aguard_some, wantE_some, pickV_bool, nilck_ptr, nilck_elem, aoff_ptr, aoff_elem, aun_not, aun_neg, lenStr_str, lenSl_nils, lenSl_sl, lenSl_osl, aextract_tup, ld1uelem, idxStr_str, amin2uint, amax2uint, rangeStr_str, sliceStr_from, sliceStr_to, List.getElem?_cons_zero, List.getElem?_cons_succ, Option.map_some, Option.bind_some, Int.toNat_natCast, Int.toNat_zero, Int.le_refl, Bool.not_true, Bool.not_false, Bool.not_not, Bool.false_eq_true, if_true, if_false, decide_eq_true_eq, beq_self_eq_true, bool_ft, bool_tf, decide_true, decide_false, reduceCtorEq, cmpNil, cmpRes, boxCells, AV.known, AV.cells, Nat.zero_add, and_self, and_true, true_and, ite_self, forall_const, not_true_eq_false, not_false_eq_true]
    exact no fun e => c3 (by rw [e])
  have d3 : (!(a.t == b.t)) = false := by simpa using c3
  have e3 : (a.t != b.t) = false := by simpa using c3
  simp only [d3, e3, abin_i_add, abin_i_sub, abin_i_mul, abin_i_eql, abin_i_neq, abin_i_lss, abin_i_leq, abin_i_gtr, abin_i_geq, abin_s_eql, abin_s_neq, bnd_some, bnd_none, branch_bool, gwant_bool, gwant_nothing, aguard_some, wantE_some, pickV_bool, nilck_ptr, nilck_elem, aoff_ptr, aoff_elem, aun_not, aun_neg, lenStr_str, lenSl_nils, lenSl_sl, lenSl_osl, aextract_tup, ld1uelem, idxStr_str, amin2uint, amax2uint, rangeStr_str, sliceStr_from, sliceStr_to, List.getElem?_cons_zero, List.getElem?_cons_succ, Option.map_some, Option.bind_some, Int.toNat_natCast, Int.toNat_zero, Int.le_refl, Bool.not_true, Bool.not_false, Bool.not_not, Bool.false_eq_true, if_true, if_false, decide_eq_true_eq, beq_self_eq_true, bool_ft, bool_tf, decide_true, decide_false, reduceCtorEq, cmpNil, cmpRes, boxCells, AV.known, AV.cells, Nat.zero_add, and_self, and_true, true_and, ite_self, forall_const, not_true_eq_false, not_false_eq_true, ld1uptr hp, ld1uptr hq, a4, b4]
  by_cases c4 : a.n = b.n
  case neg =>
    have d : (!(a.n == b.n)) = true := by simpa using c4
    have d' : (a.n != b.n) = true := by simpa using c4
    simp only [d, d', abin_i_add, abin_i_sub, abin_i_mul, abin_i_eql, abin_i_neq, abin_i_lss, abin_i_leq, abin_i_gtr, abin_i_geq, abin_s_eql, abin_s_neq, bnd_some, bnd_none, branch_bool, gwant_bool, gwant_nothing, aguard_some, wantE_some, pickV_bool, nilck_ptr, nilck_elem, aoff_ptr, aoff_elem, aun_not, aun_neg, lenStr_str, lenSl_nils, lenSl_sl, lenSl_osl, aextract_tup, ld1uelem, idxStr_str, amin2uint, amax2uint, rangeStr_str, sliceStr_from, sliceStr_to, List.getElem?_cons_zero, List.getElem?_cons_succ, Option.map_some, Option.bind_some, Int.toNat_natCast, Int.toNat_zero, Int.le_refl, Bool.not_true, Bool.not_false, Bool.not_not, Bool.false_eq_true, if_true, if_false, decide_eq_true_eq, beq_self_eq_true, bool_ft, bool_tf, decide_true, decide_false, reduceCtorEq, cmpNil, cmpRes, boxCells, AV.known, AV.cells, Nat.zero_add, and_self, and_true, true_and, ite_self, forall_const, not_true_eq_false, not_false_eq_true]
    exact no fun e => c4 (by rw [e])
  have d4 : (!(a.n == b.n)) = false := by simpa using c4
  have e4 : (a.n != b.n) = false := by simpa using c4
  simp only [d4, e4, abin_i_add, abin_i_sub, abin_i_mul, abin_i_eql, abin_i_neq, abin_i_lss, abin_i_leq, abin_i_gtr, abin_i_geq, abin_s_eql, abin_s_neq, bnd_some, bnd_none, branch_bool, gwant_bool, gwant_nothing, aguard_some, wantE_some, pickV_bool, nilck_ptr, nilck_elem, aoff_ptr, aoff_elem, aun_not, aun_neg, lenStr_str, lenSl_nils, lenSl_sl, lenSl_osl, aextract_tup, ld1uelem, idxStr_str, amin2uint, amax2uint, rangeStr_str, sliceStr_from, sliceStr_to, List.getElem?_cons_zero, List.getElem?_cons_succ, Option.map_some, Option.bind_some, Int.toNat_natCast, Int.toNat_zero, Int.le_refl, Bool.not_true, Bool.not_false, Bool.not_not, Bool.false_eq_true, if_true, if_false, decide_eq_true_eq, beq_self_eq_true, bool_ft, bool_tf, decide_true, decide_false, reduceCtorEq, cmpNil, cmpRes, boxCells, AV.known, AV.cells, Nat.zero_add, and_self, and_true, true_and, ite_self, forall_const, not_true_eq_false, not_false_eq_true, ld1uptr hp, ld1uptr hq, a5, b5]
  by_cases c5 : a.state = b.state
  case neg =>
    have d : (!(a.state == b.state)) = true := by simpa using c5
    have d' : (a.state != b.state) = true := by simpa using c5
    simp only [d, d', abin_i_add, abin_i_sub, abin_i_mul, abin_i_eql, abin_i_neq, abin_i_lss, abin_i_leq, abin_i_gtr, abin_i_geq, abin_s_eql, abin_s_neq, bnd_some, bnd_none, branch_bool, gwant_bool, gwant_nothing, aguard_some, wantE_some, pickV_bool, nilck_ptr, nilck_elem, aoff_ptr, aoff_elem, aun_not, aun_neg, lenStr_str, lenSl_nils, lenSl_sl, lenSl_osl, aextract_tup, ld1uelem, idxStr_str, amin2uint, amax2uint, rangeStr_str, sliceStr_from, sliceStr_to, List.getElem?_cons_zero, List.getElem?_cons_succ, Option.map_some, Option.bind_some, Int.toNat_natCast, Int.toNat_zero, Int.le_refl, Bool.not_true, Bool.not_false, Bool.not_not, Bool.false_eq_true, if_true, if_false, decide_eq_true_eq, beq_self_eq_true, bool_ft, bool_tf, decide_true, decide_false, reduceCtorEq, cmpNil, cmpRes, boxCells, AV.known, AV.cells, Nat.zero_add, and_self, and_true, true_and, ite_self, forall_const, not_true_eq_false, not_false_eq_true]
    exact no fun e => c5 (by rw [e])
  have d5 : (!(a.state == b.state)) = false := by simpa using c5
  have e5 : (a.state != b.state) = false := by simpa using c5
  simp only [d5, e5, abin_i_add, abin_i_sub, abin_i_mul, abin_i_eql, abin_i_neq, abin_i_lss, abin_i_leq, abin_i_gtr, abin_i_geq, abin_s_eql, abin_s_neq, bnd_some, bnd_none, branch_bool, gwant_bool, gwant_nothing, aguard_some, wantE_some, pickV_bool, nilck_ptr, nilck_elem, aoff_ptr, aoff_elem, aun_not, aun_neg, lenStr_str, lenSl_nils, lenSl_sl, lenSl_osl, aextract_tup, ld1uelem, idxStr_str, amin2uint, amax2uint, rangeStr_str, sliceStr_from, sliceStr_to, List.getElem?_cons_zero, List.getElem?_cons_succ, Option.map_some, Option.bind_some, Int.toNat_natCast, Int.toNat_zero, Int.le_refl, Bool.not_true, Bool.not_false, Bool.not_not, Bool.false_eq_true, if_true, if_false, decide_eq_true_eq, beq_self_eq_true, bool_ft, bool_tf, decide_true, decide_false, reduceCtorEq, cmpNil, cmpRes, boxCells, AV.known, AV.cells, Nat.zero_add, and_self, and_true, true_and, ite_self, forall_const, not_true_eq_false, not_false_eq_true, ld1uptr hp, ld1uptr hq, a6, b6]
  by_cases c6 : a.num = b.num
  case neg =>
    have d : (!(a.num == b.num)) = true := by simpa using c6
    have d' : (a.num != b.num) = true := by simpa using c6
    simp only [d, d', abin_i_add, abin_i_sub, abin_i_mul, abin_i_eql, abin_i_neq, abin_i_lss, abin_i_leq, abin_i_gtr, abin_i_geq, abin_s_eql, abin_s_neq, bnd_some, bnd_none, branch_bool, gwant_bool, gwant_nothing, aguard_some, wantE_some, pickV_bool, nilck_ptr, nilck_elem, aoff_ptr, aoff_elem, aun_not, aun_neg, lenStr_str, lenSl_nils, lenSl_sl, lenSl_osl, aextract_tup, ld1uelem, idxStr_str, amin2uint, amax2uint, rangeStr_str, sliceStr_from, sliceStr_to, List.getElem?_cons_zero, List.getElem?_cons_succ, Option.map_some, Option.bind_some, Int.toNat_natCast, Int.toNat_zero, Int.le_refl, Bool.not_true, Bool.not_false, Bool.not_not, Bool.false_eq_true, if_true, if_false, decide_eq_true_eq, beq_self_eq_true, bool_ft, bool_tf, decide_true, decide_false, reduceCtorEq, cmpNil, cmpRes, boxCells, AV.known, AV.cells, Nat.zero_add, and_self, and_true, true_and, ite_self, forall_const, not_true_eq_false, not_false_eq_true]
    exact no fun e => c6 (by rw [e])
  have d6 : (!(a.num == b.num)) = false := by simpa using c6
  have e6 : (a.num != b.num) = false := by simpa using c6
  simp only [d6, e6, abin_i_add, abin_i_sub, abin_i_mul, abin_i_eql, abin_i_neq, abin_i_lss, abin_i_leq, abin_i_gtr, abin_i_geq, abin_s_eql, abin_s_neq, bnd_some, bnd_none, branch_bool, gwant_bool, gwant_nothing, aguard_some, wantE_some, pickV_bool, nilck_ptr, nilck_elem, aoff_ptr, aoff_elem, aun_not, aun_neg, lenStr_str, lenSl_nils, lenSl_sl, lenSl_osl, aextract_tup, ld1uelem, idxStr_str, amin2uint, amax2uint, rangeStr_str, sliceStr_from, sliceStr_to, List.getElem?_cons_zero, List.getElem?_cons_succ, Option.map_some, Option.bind_some, Int.toNat_natCast, Int.toNat_zero, Int.le_refl, Bool.not_true, Bool.not_false, Bool.not_not, Bool.false_eq_true, if_true, if_false, decide_eq_true_eq, beq_self_eq_true, bool_ft, bool_tf, decide_true, decide_false, reduceCtorEq, cmpNil, cmpRes, boxCells, AV.known, AV.cells, Nat.zero_add, and_self, and_true, true_and, ite_self, forall_const, not_true_eq_false, not_false_eq_true, ld1uptr hp, ld1uptr hq, a7, b7]
  by_cases c7 : a.epoch = b.epoch
  case neg =>
    have d : (!(a.epoch == b.epoch)) = true := by simpa using c7
    have d' : (a.epoch != b.epoch) = true := by simpa using c7
    simp only [d, d', abin_i_add, abin_i_sub, abin_i_mul, abin_i_eql, abin_i_neq, abin_i_lss, abin_i_leq, abin_i_gtr, abin_i_geq, abin_s_eql, abin_s_neq, bnd_some, bnd_none, branch_bool, gwant_bool, gwant_nothing, aguard_some, wantE_some, pickV_bool, nilck_ptr, nilck_elem, aoff_ptr, aoff_elem, aun_not, aun_neg, lenStr_str, lenSl_nils, lenSl_sl, lenSl_osl, aextract_tup, ld1uelem, idxStr_str, amin2uint, amax2uint, rangeStr_str, sliceStr_from, sliceStr_to, List.getElem?_cons_zero, List.getElem?_cons_succ, Option.map_some, Option.bind_some, Int.toNat_natCast, Int.toNat_zero, Int.le_refl, Bool.not_true, Bool.not_false, Bool.not_not, Bool.false_eq_true, if_true, if_false, decide_eq_true_eq, beq_self_eq_true, bool_ft, bool_tf, decide_true, decide_false, reduceCtorEq, cmpNil, cmpRes, boxCells, AV.known, AV.cells, Nat.zero_add, and_self, and_true, true_and, ite_self, forall_const, not_true_eq_false, not_false_eq_true]
    exact no fun e => c7 (by rw [e])
  have d7 : (!(a.epoch == b.epoch)) = false := by simpa using c7
  have e7 : (a.epoch != b.epoch) = false := by simpa using c7
  simp only [d7, e7, abin_i_add, abin_i_sub, abin_i_mul, abin_i_eql, abin_i_neq, abin_i_lss, abin_i_leq, abin_i_gtr, abin_i_geq, abin_s_eql, abin_s_neq, bnd_some, bnd_none, branch_bool, gwant_bool, gwant_nothing, aguard_some, wantE_some, pickV_bool, nilck_ptr, nilck_elem, aoff_ptr, aoff_elem, aun_not, aun_neg, lenStr_str, lenSl_nils, lenSl_sl, lenSl_osl, aextract_tup, ld1uelem, idxStr_str, amin2uint, amax2uint, rangeStr_str, sliceStr_from, sliceStr_to, List.getElem?_cons_zero, List.getElem?_cons_succ, Option.map_some, Option.bind_some, Int.toNat_natCast, Int.toNat_zero, Int.le_refl, Bool.not_true, Bool.not_false, Bool.not_not, Bool.false_eq_true, if_true, if_false, decide_eq_true_eq, beq_self_eq_true, bool_ft, bool_tf, decide_true, decide_false, reduceCtorEq, cmpNil, cmpRes, boxCells, AV.known, AV.cells, Nat.zero_add, and_self, and_true, true_and, ite_self, forall_const, not_true_eq_false, not_false_eq_true, ld1uptr hp, ld1uptr hq, a8, b8, len hva, len hvb]
  by_cases c8 : a.items.length = b.items.length
  case neg =>
    have d' : (((a.items.length : Nat) : Int) != ((b.items.length : Nat) : Int)) = true := by simp only [bne_iff_ne, ne_eq]; omega
    simp only [d', abin_i_add, abin_i_sub, abin_i_mul, abin_i_eql, abin_i_neq, abin_i_lss, abin_i_leq, abin_i_gtr, abin_i_geq, abin_s_eql, abin_s_neq, bnd_some, bnd_none, branch_bool, gwant_bool, gwant_nothing, aguard_some, wantE_some, pickV_bool, nilck_ptr, nilck_elem, aoff_ptr, aoff_elem, aun_not, aun_neg, lenStr_str, lenSl_nils, lenSl_sl, lenSl_osl, aextract_tup, ld1uelem, idxStr_str, amin2uint, amax2uint, rangeStr_str, sliceStr_from, sliceStr_to, List.getElem?_cons_zero, List.getElem?_cons_succ, Option.map_some, Option.bind_some, Int.toNat_natCast, Int.toNat_zero, Int.le_refl, Bool.not_true, Bool.not_false, Bool.not_not, Bool.false_eq_true, if_true, if_false, decide_eq_true_eq, beq_self_eq_true, bool_ft, bool_tf, decide_true, decide_false, reduceCtorEq, cmpNil, cmpRes, boxCells, AV.known, AV.cells, Nat.zero_add, and_self, and_true, true_and, ite_self, forall_const, not_true_eq_false, not_false_eq_true]
    exact no fun e => c8 (by rw [e])
  have d8 : (((a.items.length : Nat) : Int) != ((b.items.length : Nat) : Int)) = false := by simp only [bne_eq_false_iff_eq]; omega
  simp only [d8, abin_i_add, abin_i_sub, abin_i_mul, abin_i_eql, abin_i_neq, abin_i_lss, abin_i_leq, abin_i_gtr, abin_i_geq, abin_s_eql, abin_s_neq, bnd_some, bnd_none, branch_bool, gwant_bool, gwant_nothing, aguard_some, wantE_some, pickV_bool, nilck_ptr, nilck_elem, aoff_ptr, aoff_elem, aun_not, aun_neg, lenStr_str, lenSl_nils, lenSl_sl, lenSl_osl, aextract_tup, ld1uelem, idxStr_str, amin2uint, amax2uint, rangeStr_str, sliceStr_from, sliceStr_to, List.getElem?_cons_zero, List.getElem?_cons_succ, Option.map_some, Option.bind_some, Int.toNat_natCast, Int.toNat_zero, Int.le_refl, Bool.not_true, Bool.not_false, Bool.not_not, Bool.false_eq_true, if_true, if_false, decide_eq_true_eq, beq_self_eq_true, bool_ft, bool_tf, decide_true, decide_false, reduceCtorEq, cmpNil, cmpRes, boxCells, AV.known, AV.cells, Nat.zero_add, and_self, and_true, true_and, ite_self, forall_const, not_true_eq_false, not_false_eq_true, ld1uptr hp, ld1uptr hq, a8, b8, len hva, len hvb]
  refine c_Same_loop a.items b.items ha.2.2.2 hb.2.2.2 c8 hp hq a8 b8 hva hvb ?_ a.items 0 rfl rfl
  have : decide (a.items = b.items) = decide (a = b) := by
    rw [decide_eq_decide]
    obtain ⟨x0, x1, x2, x3, x4, x5, x6, x7, x8⟩ := a
    obtain ⟨y0, y1, y2, y3, y4, y5, y6, y7, y8⟩ := b
    simp only at c0 c1 c2 c3 c4 c5 c6 c7
    subst c0; subst c1; subst c2; subst c3; subst c4; subst c5; subst c6; subst c7
    simp
  rw [this]; exact h'
end Go.Va
