/-
  Contracts: steps that are alike; the document's example; the first statement.
-/
import Derived.Test.YtfldcobcnlgapaaDoorCtLaw
set_option linter.unusedVariables false
set_option linter.unusedSimpArgs false
set_option maxRecDepth 100000
namespace Go.Va
theorem ldN9 {H : AH} {p : Nat} {s : Step} {iv : AV} (h : H.get p = some (.cells (stepCells s iv))) : ldN 9 (.ptr p 1) H = some (.agg (msgCells s.msg iv)) := by
  rw [ldN_ptr h 9 1 (by show 1 + 9 ≤ 12; omega)]; rfl
theorem c_SameStep (a b : Step) (ha : MsgSmall a.msg) (hb : MsgSmall b.msg) {va vb : AV} (hva : IsItems va a.msg.items) (hvb : IsItems vb b.msg.items) {H : AH} {K : AV → AH → Prop} (h : ∀ H', Ext H H' → K (.bool (decide (a = b))) H') :
    r_hostlerlaw21uSameStep [.agg (stepCells a va), .agg (stepCells b vb)] H K := by
  have hx : Ext H ((H.add (.cells (stepCells a va))).add (.cells (stepCells b vb))) := ((Ext.refl H).add _).add _
  have hp : ((H.add (.cells (stepCells a va))).add (.cells (stepCells b vb))).get H.next = some (.cells (stepCells a va)) := by rw [get_add_ne _ _ (by simp)]; exact get_add_self _ _
  have hq : ((H.add (.cells (stepCells a va))).add (.cells (stepCells b vb))).get (H.next + 1) = some (.cells (stepCells b vb)) := by
    have := get_add_self (H.add (.cells (stepCells a va))) (.cells (stepCells b vb))
    simpa using this
  simp only [r_hostlerlaw21uSameStep, abin_i_add, abin_i_sub, abin_i_mul, abin_i_eql, abin_i_neq, abin_i_lss, abin_i_leq, abin_i_gtr, abin_i_geq, abin_s_eql, abin_s_neq, bnd_some, bnd_none, branch_bool, gwant_bool, gwant_nothing, aguard_some, wantE_some, pickV_bool, nilck_ptr, nilck_elem, aoff_ptr, aoff_elem, aun_not, aun_neg, lenStr_str, lenSl_nils, lenSl_sl, lenSl_osl, aextract_tup, ld1uelem, idxStr_str, amin2uint, amax2uint, rangeStr_str, sliceStr_from, sliceStr_to, List.getElem?_cons_zero, List.getElem?_cons_succ, Option.map_some, Option.bind_some, Int.toNat_natCast, Int.toNat_zero, Int.le_refl, Bool.not_true, Bool.not_false, Bool.not_not, Bool.false_eq_true, if_true, if_false, decide_eq_true_eq, beq_self_eq_true, bool_ft, bool_tf, decide_true, decide_false, reduceCtorEq, cmpNil, cmpRes, boxCells, AV.known, AV.cells, Nat.zero_add, and_self, and_true, true_and, ite_self, forall_const, not_true_eq_false, not_false_eq_true, next_add]
  generalize hHH : (H.add (.cells (stepCells a va))).add (.cells (stepCells b vb)) = H2 at *
  have no : (a ≠ b) → K (.bool false) H2 := fun hne => by
    have : decide (a = b) = false := by simpa using hne
    rw [this] at h; exact h H2 hx
  have a0 : (stepCells a va)[0]? = some (.int .i64 a.kind) := rfl
  have b0 : (stepCells b vb)[0]? = some (.int .i64 b.kind) := rfl
  have a1 : (stepCells a va)[10]? = some (.int .i64 a.n) := rfl
  have b1 : (stepCells b vb)[10]? = some (.int .i64 b.n) := rfl
  have a2 : (stepCells a va)[11]? = some (.int .i64 a.m) := rfl
  have b2 : (stepCells b vb)[11]? = some (.int .i64 b.m) := rfl
  simp only [ld1uptr hp, ld1uptr hq, a0, b0, abin_i_add, abin_i_sub, abin_i_mul, abin_i_eql, abin_i_neq, abin_i_lss, abin_i_leq, abin_i_gtr, abin_i_geq, abin_s_eql, abin_s_neq, bnd_some, bnd_none, branch_bool, gwant_bool, gwant_nothing, aguard_some, wantE_some, pickV_bool, nilck_ptr, nilck_elem, aoff_ptr, aoff_elem, aun_not, aun_neg, lenStr_str, lenSl_nils, lenSl_sl, lenSl_osl, aextract_tup, ld1uelem, idxStr_str, amin2uint, amax2uint, rangeStr_str, sliceStr_from, sliceStr_to, List.getElem?_cons_zero, List.getElem?_cons_succ, Option.map_some, Option.bind_some, Int.toNat_natCast, Int.toNat_zero, Int.le_refl, Bool.not_true, Bool.not_false, Bool.not_not, Bool.false_eq_true, if_true, if_false, decide_eq_true_eq, beq_self_eq_true, bool_ft, bool_tf, decide_true, decide_false, reduceCtorEq, cmpNil, cmpRes, boxCells, AV.known, AV.cells, Nat.zero_add, and_self, and_true, true_and, ite_self, forall_const, not_true_eq_false, not_false_eq_true]
  by_cases c0 : a.kind = b.kind
  case neg =>
    have d : (a.kind == b.kind) = false := by simpa using c0
    simp only [d, abin_i_add, abin_i_sub, abin_i_mul, abin_i_eql, abin_i_neq, abin_i_lss, abin_i_leq, abin_i_gtr, abin_i_geq, abin_s_eql, abin_s_neq, bnd_some, bnd_none, branch_bool, gwant_bool, gwant_nothing, aguard_some, wantE_some, pickV_bool, nilck_ptr, nilck_elem, aoff_ptr, aoff_elem, aun_not, aun_neg, lenStr_str, lenSl_nils, lenSl_sl, lenSl_osl, aextract_tup, ld1uelem, idxStr_str, amin2uint, amax2uint, rangeStr_str, sliceStr_from, sliceStr_to, List.getElem?_cons_zero, List.getElem?_cons_succ, Option.map_some, Option.bind_some, Int.toNat_natCast, Int.toNat_zero, Int.le_refl, Bool.not_true, Bool.not_false, Bool.not_not, Bool.false_eq_true, if_true, if_false, decide_eq_true_eq, beq_self_eq_true, bool_ft, bool_tf, decide_true, decide_false, reduceCtorEq, cmpNil, cmpRes, boxCells, AV.known, AV.cells, Nat.zero_add, and_self, and_true, true_and, ite_self, forall_const, not_true_eq_false, not_false_eq_true]
    exact no fun e => c0 (by rw [e])
  have d0 : (a.kind == b.kind) = true := by simpa using c0
  simp only [d0, abin_i_add, abin_i_sub, abin_i_mul, abin_i_eql, abin_i_neq, abin_i_lss, abin_i_leq, abin_i_gtr, abin_i_geq, abin_s_eql, abin_s_neq, bnd_some, bnd_none, branch_bool, gwant_bool, gwant_nothing, aguard_some, wantE_some, pickV_bool, nilck_ptr, nilck_elem, aoff_ptr, aoff_elem, aun_not, aun_neg, lenStr_str, lenSl_nils, lenSl_sl, lenSl_osl, aextract_tup, ld1uelem, idxStr_str, amin2uint, amax2uint, rangeStr_str, sliceStr_from, sliceStr_to, List.getElem?_cons_zero, List.getElem?_cons_succ, Option.map_some, Option.bind_some, Int.toNat_natCast, Int.toNat_zero, Int.le_refl, Bool.not_true, Bool.not_false, Bool.not_not, Bool.false_eq_true, if_true, if_false, decide_eq_true_eq, beq_self_eq_true, bool_ft, bool_tf, decide_true, decide_false, reduceCtorEq, cmpNil, cmpRes, boxCells, AV.known, AV.cells, Nat.zero_add, and_self, and_true, true_and, ite_self, forall_const, not_true_eq_false, not_false_eq_true, ld1uptr hp, ld1uptr hq, a1, b1]
  by_cases c1 : a.n = b.n
  case neg =>
    have d : (a.n == b.n) = false := by simpa using c1
    simp only [d, abin_i_add, abin_i_sub, abin_i_mul, abin_i_eql, abin_i_neq, abin_i_lss, abin_i_leq, abin_i_gtr, abin_i_geq, abin_s_eql, abin_s_neq, bnd_some, bnd_none, branch_bool, gwant_bool, gwant_nothing, aguard_some, wantE_some, pickV_bool, nilck_ptr, nilck_elem, aoff_ptr, aoff_elem, aun_not, aun_neg, lenStr_str, lenSl_nils, lenSl_sl, lenSl_osl, aextract_tup, ld1uelem, idxStr_str, amin2uint, amax2uint, rangeStr_str, sliceStr_from, sliceStr_to, List.getElem?_cons_zero, List.getElem?_cons_succ, Option.map_some, Option.bind_some, Int.toNat_natCast, Int.toNat_zero, Int.le_refl, Bool.not_true, Bool.not_false, Bool.not_not, Bool.false_eq_true, if_true, if_false, decide_eq_true_eq, beq_self_eq_true, bool_ft, bool_tf, decide_true, decide_false, reduceCtorEq, cmpNil, cmpRes, boxCells, AV.known, AV.cells, Nat.zero_add, and_self, and_true, true_and, ite_self, forall_const, not_true_eq_false, not_false_eq_true]
    exact no fun e => c1 (by rw [e])
  have d1 : (a.n == b.n) = true := by simpa using c1
  simp only [d1, abin_i_add, abin_i_sub, abin_i_mul, abin_i_eql, abin_i_neq, abin_i_lss, abin_i_leq, abin_i_gtr, abin_i_geq, abin_s_eql, abin_s_neq, bnd_some, bnd_none, branch_bool, gwant_bool, gwant_nothing, aguard_some, wantE_some, pickV_bool, nilck_ptr, nilck_elem, aoff_ptr, aoff_elem, aun_not, aun_neg, lenStr_str, lenSl_nils, lenSl_sl, lenSl_osl, aextract_tup, ld1uelem, idxStr_str, amin2uint, amax2uint, rangeStr_str, sliceStr_from, sliceStr_to, List.getElem?_cons_zero, List.getElem?_cons_succ, Option.map_some, Option.bind_some, Int.toNat_natCast, Int.toNat_zero, Int.le_refl, Bool.not_true, Bool.not_false, Bool.not_not, Bool.false_eq_true, if_true, if_false, decide_eq_true_eq, beq_self_eq_true, bool_ft, bool_tf, decide_true, decide_false, reduceCtorEq, cmpNil, cmpRes, boxCells, AV.known, AV.cells, Nat.zero_add, and_self, and_true, true_and, ite_self, forall_const, not_true_eq_false, not_false_eq_true, ld1uptr hp, ld1uptr hq, a2, b2]
  by_cases c2 : a.m = b.m
  case neg =>
    have d : (a.m == b.m) = false := by simpa using c2
    simp only [d, abin_i_add, abin_i_sub, abin_i_mul, abin_i_eql, abin_i_neq, abin_i_lss, abin_i_leq, abin_i_gtr, abin_i_geq, abin_s_eql, abin_s_neq, bnd_some, bnd_none, branch_bool, gwant_bool, gwant_nothing, aguard_some, wantE_some, pickV_bool, nilck_ptr, nilck_elem, aoff_ptr, aoff_elem, aun_not, aun_neg, lenStr_str, lenSl_nils, lenSl_sl, lenSl_osl, aextract_tup, ld1uelem, idxStr_str, amin2uint, amax2uint, rangeStr_str, sliceStr_from, sliceStr_to, List.getElem?_cons_zero, List.getElem?_cons_succ, Option.map_some, Option.bind_some, Int.toNat_natCast, Int.toNat_zero, Int.le_refl, Bool.not_true, Bool.not_false, Bool.not_not, Bool.false_eq_true, if_true, if_false, decide_eq_true_eq, beq_self_eq_true, bool_ft, bool_tf, decide_true, decide_false, reduceCtorEq, cmpNil, cmpRes, boxCells, AV.known, AV.cells, Nat.zero_add, and_self, and_true, true_and, ite_self, forall_const, not_true_eq_false, not_false_eq_true]
    exact no fun e => c2 (by rw [e])
  have d2 : (a.m == b.m) = true := by simpa using c2
  simp only [d2, abin_i_add, abin_i_sub, abin_i_mul, abin_i_eql, abin_i_neq, abin_i_lss, abin_i_leq, abin_i_gtr, abin_i_geq, abin_s_eql, abin_s_neq, bnd_some, bnd_none, branch_bool, gwant_bool, gwant_nothing, aguard_some, wantE_some, pickV_bool, nilck_ptr, nilck_elem, aoff_ptr, aoff_elem, aun_not, aun_neg, lenStr_str, lenSl_nils, lenSl_sl, lenSl_osl, aextract_tup, ld1uelem, idxStr_str, amin2uint, amax2uint, rangeStr_str, sliceStr_from, sliceStr_to, List.getElem?_cons_zero, List.getElem?_cons_succ, Option.map_some, Option.bind_some, Int.toNat_natCast, Int.toNat_zero, Int.le_refl, Bool.not_true, Bool.not_false, Bool.not_not, Bool.false_eq_true, if_true, if_false, decide_eq_true_eq, beq_self_eq_true, bool_ft, bool_tf, decide_true, decide_false, reduceCtorEq, cmpNil, cmpRes, boxCells, AV.known, AV.cells, Nat.zero_add, and_self, and_true, true_and, ite_self, forall_const, not_true_eq_false, not_false_eq_true, ldN9 hp, ldN9 hq]
  refine c_ref_Same a.msg b.msg ha hb hva hvb fun H3 hx3 => ?_
  have : decide (a.msg = b.msg) = decide (a = b) := by
    rw [decide_eq_decide]
    obtain ⟨x0, x1, x2, x3⟩ := a
    obtain ⟨y0, y1, y2, y3⟩ := b
    simp only at c0 c1 c2
    subst c0; subst c1; subst c2
    simp
  rw [this]
  exact h H3 (hx.trans hx3)
theorem parse_kill : parseS [107, 105, 108, 108, 32, 97, 32, 98] = some [{ kind := 1, msg := { kind := 2, f := [97], t := [98] } }] := by rfl
theorem c_wakes {H : AH} {K : AV → AH → Prop} (h : ∀ H', Ext H H' → K (.bool true) H') : r_hostlerlaw21uwakes [] H K := by
  simp only [r_hostlerlaw21uwakes]
  refine c_script_Parse _ (by decide) (fun l hl H1 v hx hv => ?_) (fun hn => by rw [parse_kill] at hn; cases hn)
  rw [parse_kill] at hl
  cases hl
  obtain ⟨es, hsl, hr⟩ := hv
  obtain ⟨e, rfl⟩ : ∃ e, es = [e] := by
    have := hr.1
    match es, this with
    | [e], _ => exact ⟨e, rfl⟩
  obtain ⟨iv, rfl, hiv⟩ := hr.2 0 e _ rfl rfl
  rcases hsl with ⟨_, h0⟩ | ⟨g, rfl⟩
  · cases h0
  have hiv0 : IsItems iv [] := hiv
  have ei : idxA 12 (.sl g 12 ([AV.agg (stepCells { kind := 1, msg := { kind := 2, f := [97], t := [98] } } iv)].map id)) (.int .i64 0) = some (.elem (stepCells { kind := 1, msg := { kind := 2, f := [97], t := [98] } } iv) 0) := by
    simp [idxA, AV.known, AV.cells]
  have e0 : (stepCells { kind := 1, msg := { kind := 2, f := [97], t := [98] } } iv)[0]? = some (.int .i64 1) := rfl
  have e9 : ldN 9 (.elem (stepCells { kind := 1, msg := { kind := 2, f := [97], t := [98] } } iv) 1) H1 = some (.agg (msgCells { kind := 2, f := [97], t := [98] } iv)) := rfl
  have hlen : (((([AV.agg (stepCells { kind := 1, msg := { kind := 2, f := [97], t := [98] } } iv)].map id).length : Nat) : Int) == 1) = true := rfl
  have est : astruct [(0, 1), (1, 1), (2, 1), (3, 1), (4, 1), (5, 1), (6, 1), (7, 1), (8, 1)] [.int .i64 0, .str [], .str [], .str [], .int .i64 0, .int .i64 0, .int .i64 0, .int .i64 0, .nils] [(0, (.int .i64 2)), (1, (.str [97])), (3, (.str [98]))] = some (.agg (msgCells { kind := 2, f := [97], t := [98] } .nils)) := rfl
  have d0 : ((0 : Int) == 0) = true := rfl
  have d1 : ((1 : Int) == 1) = true := rfl
  simp only [abin_i_add, abin_i_sub, abin_i_mul, abin_i_eql, abin_i_neq, abin_i_lss, abin_i_leq, abin_i_gtr, abin_i_geq, abin_s_eql, abin_s_neq, bnd_some, bnd_none, branch_bool, gwant_bool, gwant_nothing, aguard_some, wantE_some, pickV_bool, nilck_ptr, nilck_elem, aoff_ptr, aoff_elem, aun_not, aun_neg, lenStr_str, lenSl_nils, lenSl_sl, lenSl_osl, aextract_tup, ld1uelem, idxStr_str, amin2uint, amax2uint, rangeStr_str, sliceStr_from, sliceStr_to, List.getElem?_cons_zero, List.getElem?_cons_succ, Option.map_some, Option.bind_some, Int.toNat_natCast, Int.toNat_zero, Int.le_refl, Bool.not_true, Bool.not_false, Bool.not_not, Bool.false_eq_true, if_true, if_false, decide_eq_true_eq, beq_self_eq_true, bool_ft, bool_tf, decide_true, decide_false, reduceCtorEq, cmpNil, cmpRes, boxCells, AV.known, AV.cells, Nat.zero_add, and_self, and_true, true_and, ite_self, forall_const, not_true_eq_false, not_false_eq_true, d0, d1, hlen, ei, e0, e9, est]
  have hms : MsgSmall { kind := 2, f := [97], t := [98] } := ⟨by decide, by decide, by decide, by decide, by simp⟩
  refine c_ref_Same _ _ hms hms hiv0 (.inl ⟨rfl, rfl⟩) fun H2 hx2 => ?_
  simp only [abin_i_add, abin_i_sub, abin_i_mul, abin_i_eql, abin_i_neq, abin_i_lss, abin_i_leq, abin_i_gtr, abin_i_geq, abin_s_eql, abin_s_neq, bnd_some, bnd_none, branch_bool, gwant_bool, gwant_nothing, aguard_some, wantE_some, pickV_bool, nilck_ptr, nilck_elem, aoff_ptr, aoff_elem, aun_not, aun_neg, lenStr_str, lenSl_nils, lenSl_sl, lenSl_osl, aextract_tup, ld1uelem, idxStr_str, amin2uint, amax2uint, rangeStr_str, sliceStr_from, sliceStr_to, List.getElem?_cons_zero, List.getElem?_cons_succ, Option.map_some, Option.bind_some, Int.toNat_natCast, Int.toNat_zero, Int.le_refl, Bool.not_true, Bool.not_false, Bool.not_not, Bool.false_eq_true, if_true, if_false, decide_eq_true_eq, beq_self_eq_true, bool_ft, bool_tf, decide_true, decide_false, reduceCtorEq, cmpNil, cmpRes, boxCells, AV.known, AV.cells, Nat.zero_add, and_self, and_true, true_and, ite_self, forall_const, not_true_eq_false, not_false_eq_true, decide_true]
  exact h H2 (hx.trans hx2)

-- ---------------------------------------------------------------- ScriptNumbers
theorem dig_toNat {n : Nat} (h : n < 10) : (dig n).toNat = 48 + n := by
  unfold dig; simp; omega
theorem isDig_dig {n : Nat} (h : n < 10) : isDig (dig n) = true := by
  simp only [isDig, dig_toNat h, decide_eq_true_eq]; omega
theorem digitsS_spec : ∀ (m n : Nat), n ≤ m → (digitsS n).all isDig = true ∧ numOf (digitsS n) = n ∧ digitsS n ≠ [] ∧ (0 < n → (digitsS n).head? ≠ some 48) ∧ (∀ k, n < 10 ^ (k + 1) → (digitsS n).length ≤ k + 1) := by
  intro m
  induction m with
  | zero =>
    intro n hn; obtain rfl : n = 0 := by omega
    rw [digitsS, dif_pos (by omega)]
    refine ⟨by decide, by decide, by simp, by omega, fun k _ => by simp⟩
  | succ m ih =>
    intro n hn
    rw [digitsS]
    by_cases h : n < 10
    · rw [dif_pos h]
      refine ⟨by simp [isDig_dig h], ?_, by simp, fun hp => ?_, fun k _ => by simp⟩
      · simp only [numOf, List.foldl_cons, List.foldl_nil, numStep, dig_toNat h]; omega
      · simp only [List.head?_cons, ne_eq, Option.some.injEq]
        intro e
        have := congrArg UInt8.toNat e
        rw [dig_toNat h] at this
        have e48 : (48 : UInt8).toNat = 48 := rfl
        omega
    · rw [dif_neg h]
      obtain ⟨h1, h2, h3, h4, h5⟩ := ih (n / 10) (by omega)
      have hm := Nat.mod_lt n (show 10 > 0 by omega)
      refine ⟨by simp [h1, isDig_dig hm], ?_, by simp, fun _ => ?_, fun k hk => ?_⟩
      · have h2' : (digitsS (n / 10)).foldl numStep 0 = n / 10 := h2
        simp only [numOf, List.foldl_append, h2', List.foldl_cons, List.foldl_nil, numStep, dig_toNat hm]; omega
      · have := h4 (by omega)
        cases hd : digitsS (n / 10) with
        | nil => exact absurd hd h3
        | cons a l => rw [hd] at this; simpa using this
      · cases k with
        | zero => simp at hk; omega
        | succ k =>
          have := h5 k (by rw [Nat.pow_succ] at hk; omega)
          simp; omega
theorem number_digits (n : Nat) (h : n < 1000000000) : number (digitsS n) = some n := by
  obtain ⟨h1, h2, h3, h4, h5⟩ := digitsS_spec n n (Nat.le_refl _)
  unfold number
  rw [if_pos, h2]
  refine ⟨h3, h5 8 (by omega), h1, ?_⟩
  by_cases h0 : 0 < n
  · exact .inl (h4 h0)
  · obtain rfl : n = 0 := by omega
    right; rw [digitsS, dif_pos (by omega)]; decide
theorem number_none_dig {s : Bs} (h : s.all isDig = false) : number s = none := by
  unfold number; rw [if_neg]; rintro ⟨_, _, h3, _⟩; rw [h] at h3; cases h3
theorem c_Numbers_loop (n : Nat) (ts : List Bs) (hts : ∀ t ∈ ts, number t = none ∧ t.length ≤ 1000000000) (hl : ts.length ≤ 1000000000) {H0 : AH} {g : Grow} {K : AV → AH → Prop} (h : ∀ H', Ext H0 H' → K (.bool true) H') :
    ∀ (r : List Bs) (i : Nat) (H : AH), ts.drop i = r → Ext H0 H → LoopP (r_hostlerlaw21uScriptNumbers_p500 K) [.int .i64 n, .int .i64 n, .bool true, .sl g 1 (ts.map .str), .int .i64 ts.length, .int .i64 i] H
  | [], i, H, hr, hx => by
    refine .fold ?_
    have hi : ts.length ≤ i := by simpa using hr
    have hlt : ¬ ((i : Int) < (ts.length : Int)) := by omega
    simp only [r_hostlerlaw21uScriptNumbers_p500, abin_i_add, abin_i_sub, abin_i_mul, abin_i_eql, abin_i_neq, abin_i_lss, abin_i_leq, abin_i_gtr, abin_i_geq, abin_s_eql, abin_s_neq, bnd_some, bnd_none, branch_bool, gwant_bool, gwant_nothing, aguard_some, wantE_some, pickV_bool, nilck_ptr, nilck_elem, aoff_ptr, aoff_elem, aun_not, aun_neg, lenStr_str, lenSl_nils, lenSl_sl, lenSl_osl, aextract_tup, ld1uelem, idxStr_str, amin2uint, amax2uint, rangeStr_str, sliceStr_from, sliceStr_to, List.getElem?_cons_zero, List.getElem?_cons_succ, Option.map_some, Option.bind_some, Int.toNat_natCast, Int.toNat_zero, Int.le_refl, Bool.not_true, Bool.not_false, Bool.not_not, Bool.false_eq_true, if_true, if_false, decide_eq_true_eq, beq_self_eq_true, bool_ft, bool_tf, decide_true, decide_false, reduceCtorEq, cmpNil, cmpRes, boxCells, AV.known, AV.cells, Nat.zero_add, and_self, and_true, true_and, ite_self, forall_const, not_true_eq_false, not_false_eq_true, hlt]
    refine c_wakes fun H1 hx1 => ?_
    exact h H1 (hx.trans hx1)
  | t :: r, i, H, hr, hx => by
    refine .fold ?_
    have ht : ts[i]? = some t := by
      have := congrArg (fun l => l[0]?) hr
      simpa using this
    have hlt : i < ts.length := (List.getElem?_eq_some_iff.1 ht).1
    have hr' : ts.drop (i + 1) = r := by rw [← List.drop_drop, hr]; rfl
    have h1 : ((i : Int) < (ts.length : Int)) := by omega
    have h2 : (0 : Int) ≤ (i : Int) := by omega
    have hww : IntKind.i64.wrap ((i : Int) + 1) = ((i + 1 : Nat) : Int) := by rw [wrap_i64 (by omega) (by omega)]; omega
    have hgi : (ts.map AV.str)[i]? = some (.str t) := by simp [ht]
    obtain ⟨hn, htl⟩ := hts t (List.mem_of_getElem? ht)
    simp only [r_hostlerlaw21uScriptNumbers_p500, abin_i_add, abin_i_sub, abin_i_mul, abin_i_eql, abin_i_neq, abin_i_lss, abin_i_leq, abin_i_gtr, abin_i_geq, abin_s_eql, abin_s_neq, bnd_some, bnd_none, branch_bool, gwant_bool, gwant_nothing, aguard_some, wantE_some, pickV_bool, nilck_ptr, nilck_elem, aoff_ptr, aoff_elem, aun_not, aun_neg, lenStr_str, lenSl_nils, lenSl_sl, lenSl_osl, aextract_tup, ld1uelem, idxStr_str, amin2uint, amax2uint, rangeStr_str, sliceStr_from, sliceStr_to, List.getElem?_cons_zero, List.getElem?_cons_succ, Option.map_some, Option.bind_some, Int.toNat_natCast, Int.toNat_zero, Int.le_refl, Bool.not_true, Bool.not_false, Bool.not_not, Bool.false_eq_true, if_true, if_false, decide_eq_true_eq, beq_self_eq_true, bool_ft, bool_tf, decide_true, decide_false, reduceCtorEq, cmpNil, cmpRes, boxCells, AV.known, AV.cells, Nat.zero_add, and_self, and_true, true_and, ite_self, forall_const, not_true_eq_false, not_false_eq_true, h1, idxA, h2, hgi]
    refine c_script_Number t (by omega) fun H1 hx1 => ?_
    simp only [hn, Option.getD_none, Option.isSome_none, abin_i_add, abin_i_sub, abin_i_mul, abin_i_eql, abin_i_neq, abin_i_lss, abin_i_leq, abin_i_gtr, abin_i_geq, abin_s_eql, abin_s_neq, bnd_some, bnd_none, branch_bool, gwant_bool, gwant_nothing, aguard_some, wantE_some, pickV_bool, nilck_ptr, nilck_elem, aoff_ptr, aoff_elem, aun_not, aun_neg, lenStr_str, lenSl_nils, lenSl_sl, lenSl_osl, aextract_tup, ld1uelem, idxStr_str, amin2uint, amax2uint, rangeStr_str, sliceStr_from, sliceStr_to, List.getElem?_cons_zero, List.getElem?_cons_succ, Option.map_some, Option.bind_some, Int.toNat_natCast, Int.toNat_zero, Int.le_refl, Bool.not_true, Bool.not_false, Bool.not_not, Bool.false_eq_true, if_true, if_false, decide_eq_true_eq, beq_self_eq_true, bool_ft, bool_tf, decide_true, decide_false, reduceCtorEq, cmpNil, cmpRes, boxCells, AV.known, AV.cells, Nat.zero_add, and_self, and_true, true_and, ite_self, forall_const, not_true_eq_false, not_false_eq_true, show ((((0 : Nat) : Int)) != 0) = false from rfl, hww]
    exact c_Numbers_loop n ts hts hl h r (i + 1) H1 hr' (hx.trans hx1)
theorem c_ScriptNumbers (v : Int) {H : AH} {K : AV → AH → Prop} (h : ∀ H', Ext H H' → K (.bool true) H') : r_hostlerlaw21uScriptNumbers [.int .i64 v] H K := by
  simp only [r_hostlerlaw21uScriptNumbers]
  refine c_Within v 1000000000 (by decide) ?_
  have hlt := within_lt v 1000000000 (by decide)
  generalize within v 1000000000 = n at hlt
  obtain ⟨h1, h2, h3, h4, h5⟩ := digitsS_spec n n (Nat.le_refl _)
  have hlen := h5 8 (by omega)
  refine c_digits n n (Nat.le_refl _) (by omega) ?_
  refine c_script_Number _ (by omega) fun H1 hx1 => ?_
  simp only [number_digits n hlt, Option.getD_some, Option.isSome_some, abin_i_add, abin_i_sub, abin_i_mul, abin_i_eql, abin_i_neq, abin_i_lss, abin_i_leq, abin_i_gtr, abin_i_geq, abin_s_eql, abin_s_neq, bnd_some, bnd_none, branch_bool, gwant_bool, gwant_nothing, aguard_some, wantE_some, pickV_bool, nilck_ptr, nilck_elem, aoff_ptr, aoff_elem, aun_not, aun_neg, lenStr_str, lenSl_nils, lenSl_sl, lenSl_osl, aextract_tup, ld1uelem, idxStr_str, amin2uint, amax2uint, rangeStr_str, sliceStr_from, sliceStr_to, List.getElem?_cons_zero, List.getElem?_cons_succ, Option.map_some, Option.bind_some, Int.toNat_natCast, Int.toNat_zero, Int.le_refl, Bool.not_true, Bool.not_false, Bool.not_not, Bool.false_eq_true, if_true, if_false, decide_eq_true_eq, beq_self_eq_true, bool_ft, bool_tf, decide_true, decide_false, reduceCtorEq, cmpNil, cmpRes, boxCells, AV.known, AV.cells, Nat.zero_add, and_self, and_true, true_and, ite_self, forall_const, not_true_eq_false, not_false_eq_true, abin_s_add, List.length_cons, List.length_nil]
  have b1 : 0 + 1 + (digitsS n).length ≤ 9223372036854775807 := by omega
  have b2 : (digitsS n).length + (0 + 1) ≤ 9223372036854775807 := by omega
  simp only [Nat.zero_add] at b1 b2
  simp only [b1, b2, abin_i_add, abin_i_sub, abin_i_mul, abin_i_eql, abin_i_neq, abin_i_lss, abin_i_leq, abin_i_gtr, abin_i_geq, abin_s_eql, abin_s_neq, bnd_some, bnd_none, branch_bool, gwant_bool, gwant_nothing, aguard_some, wantE_some, pickV_bool, nilck_ptr, nilck_elem, aoff_ptr, aoff_elem, aun_not, aun_neg, lenStr_str, lenSl_nils, lenSl_sl, lenSl_osl, aextract_tup, ld1uelem, idxStr_str, amin2uint, amax2uint, rangeStr_str, sliceStr_from, sliceStr_to, List.getElem?_cons_zero, List.getElem?_cons_succ, Option.map_some, Option.bind_some, Int.toNat_natCast, Int.toNat_zero, Int.le_refl, Bool.not_true, Bool.not_false, Bool.not_not, Bool.false_eq_true, if_true, if_false, decide_eq_true_eq, beq_self_eq_true, bool_ft, bool_tf, decide_true, decide_false, reduceCtorEq, cmpNil, cmpRes, boxCells, AV.known, AV.cells, Nat.zero_add, and_self, and_true, true_and, ite_self, forall_const, not_true_eq_false, not_false_eq_true]
  have hbs : buildSl 1 9 [(0, AV.str []), (1, .str ([45] ++ digitsS n)), (2, .str ([43] ++ digitsS n)), (3, .str ([48] ++ digitsS n)), (4, .str (digitsS n ++ [32])), (5, .str (digitsS n ++ [120])), (6, .str [49, 48, 48, 48, 48, 48, 48, 48, 48, 48]), (7, .str [120]), (8, .str ([32] ++ digitsS n))] =
      some (.sl .full 1 (([[], [45] ++ digitsS n, [43] ++ digitsS n, [48] ++ digitsS n, digitsS n ++ [32], digitsS n ++ [120], [49, 48, 48, 48, 48, 48, 48, 48, 48, 48], [120], [32] ++ digitsS n] : List Bs).map .str)) := rfl
  simp only [hbs, abin_i_add, abin_i_sub, abin_i_mul, abin_i_eql, abin_i_neq, abin_i_lss, abin_i_leq, abin_i_gtr, abin_i_geq, abin_s_eql, abin_s_neq, bnd_some, bnd_none, branch_bool, gwant_bool, gwant_nothing, aguard_some, wantE_some, pickV_bool, nilck_ptr, nilck_elem, aoff_ptr, aoff_elem, aun_not, aun_neg, lenStr_str, lenSl_nils, lenSl_sl, lenSl_osl, aextract_tup, ld1uelem, idxStr_str, amin2uint, amax2uint, rangeStr_str, sliceStr_from, sliceStr_to, List.getElem?_cons_zero, List.getElem?_cons_succ, Option.map_some, Option.bind_some, Int.toNat_natCast, Int.toNat_zero, Int.le_refl, Bool.not_true, Bool.not_false, Bool.not_not, Bool.false_eq_true, if_true, if_false, decide_eq_true_eq, beq_self_eq_true, bool_ft, bool_tf, decide_true, decide_false, reduceCtorEq, cmpNil, cmpRes, boxCells, AV.known, AV.cells, Nat.zero_add, and_self, and_true, true_and, ite_self, forall_const, not_true_eq_false, not_false_eq_true, List.length_map]
  refine c_Numbers_loop n _ ?_ (by simp) (fun H' hx' => h H' (hx1.trans hx')) _ 0 H1 rfl (Ext.refl H1)
  intro t ht
  simp only [List.mem_cons, List.not_mem_nil, or_false] at ht
  have bad : ∀ (c : UInt8), isDig c = false → number ([c] ++ digitsS n) = none := fun c hc => number_none_dig (by simp [hc])
  have bad2 : ∀ (c : UInt8), isDig c = false → number (digitsS n ++ [c]) = none := fun c hc => number_none_dig (by simp [hc])
  rcases ht with rfl | rfl | rfl | rfl | rfl | rfl | rfl | rfl | rfl
  · exact ⟨by decide, by simp⟩
  · exact ⟨bad 45 (by decide), by simp; omega⟩
  · exact ⟨bad 43 (by decide), by simp; omega⟩
  · refine ⟨?_, by simp; omega⟩
    unfold number
    rw [if_neg]
    rintro ⟨_, _, _, hh | hh⟩
    · exact hh rfl
    · simp at hh; exact h3 hh
  · exact ⟨bad2 32 (by decide), by simp; omega⟩
  · exact ⟨bad2 120 (by decide), by simp; omega⟩
  · exact ⟨by decide, by simp⟩
  · exact ⟨by decide, by simp⟩
  · exact ⟨bad 32 (by decide), by simp; omega⟩
end Go.Va
