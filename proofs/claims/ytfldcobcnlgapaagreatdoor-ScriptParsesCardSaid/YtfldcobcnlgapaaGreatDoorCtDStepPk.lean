/-
  Texts of this claim, one behind the other: what each holds stands at its head.
-/
import Derived.Test.YtfldcobcnlgapaaGreatDoorCtRefPk
/-
  Contracts: the document's reading of a line.
-/
set_option linter.unusedVariables false
set_option linter.unusedSimpArgs false
set_option maxRecDepth 100000
namespace Go.Va
def encN (n : Nat) : AV := .int .i64 n
/-- the three objects of the function, and what it holds of them -/
structure FS (H0 : AH) (o : Nat) (m : Msg) (iv : AV) (H : AH) : Prop where
  lo : H0.next ≤ o
  hi : o + 2 < H.next
  g2 : ∃ c2, H.get o = some (.cells c2) ∧ c2.length = 12
  g4 : H.get (o + 1) = some (.cells step0)
  g10 : H.get (o + 2) = some (.cells (msgCells m iv))
  gr : IsGrow 2 encItem H0 iv m.items H
  hx : Ext H0 H
structure FN (H0 : AH) (o : Nat) (H : AH) : Prop where
  lo : H0.next ≤ o
  hi : o + 1 < H.next
  g2 : ∃ c2, H.get o = some (.cells c2) ∧ c2.length = 12
  g4 : H.get (o + 1) = some (.cells step0)
  hx : Ext H0 H
theorem FS.fn {H0 H : AH} {o : Nat} {m : Msg} {iv : AV} (h : FS H0 o m iv H) : FN H0 o H := ⟨h.lo, by have := h.hi; omega, h.g2, h.g4, h.hx⟩
theorem FN.ext {H0 H H' : AH} {o : Nat} (h : FN H0 o H) (hx : Ext H H') : FN H0 o H' := by
  obtain ⟨c2, hc, hl⟩ := h.g2
  have hhi := h.hi
  exact ⟨h.lo, by have := hx.next; omega, ⟨c2, hx.get_lt (by omega) hc, hl⟩, hx.get_lt (by omega) h.g4, h.hx.trans hx⟩
theorem FN.grown {H0 H H' : AH} {o : Nat} (h : FN H0 o H) (hg : H'.get = H.get) (hn : H.next ≤ H'.next) (hx : Ext H0 H') : FN H0 o H' := by
  have hhi := h.hi
  exact ⟨h.lo, by omega, by rw [hg]; exact h.g2, by rw [hg]; exact h.g4, hx⟩
theorem FS.ext {H0 H H' : AH} {o : Nat} {m : Msg} {iv : AV} (h : FS H0 o m iv H) (hx : Ext H H') : FS H0 o m iv H' := by
  obtain ⟨c2, hc, hl⟩ := h.g2
  have hhi := h.hi
  exact ⟨h.lo, by have := hx.next; omega, ⟨c2, hx.get_lt (by omega) hc, hl⟩, hx.get_lt (by omega) h.g4, hx.get_lt (by omega) h.g10, h.gr.mono hx.next (fun c hc => hx.tok c hc), h.hx.trans hx⟩
theorem FS.put {H0 H : AH} {o : Nat} {m m' : Msg} {iv iv' : AV} (h : FS H0 o m iv H) (hgr : IsGrow 2 encItem H0 iv' m'.items H) : FS H0 o m' iv' (H.put (o + 2) (.cells (msgCells m' iv'))) := by
  obtain ⟨c2, hc, hl⟩ := h.g2
  have hhi := h.hi
  have hlo := h.lo
  exact ⟨h.lo, h.hi, ⟨c2, by rw [get_put_ne _ _ (by omega)]; exact hc, hl⟩, by rw [get_put_ne _ _ (by omega)]; exact h.g4, get_put_self _ _ _, hgr.mono (Nat.le_refl _) (fun _ _ => rfl), h.hx.put (by omega) _⟩
section
variable {K : AV → AH → Prop} {H0 : AH} {o : Nat}
theorem FN.out {H : AH} (h : FN H0 o H) {cs : List AV} (hl : cs.length = 12) (h1 : cs.all AV.one = true) {b : Bool} (k : ∀ H', Ext H0 H' → K (.tup [.agg cs, .bool b]) H') :
    bnd (ast 12 (.ptr o 0) (.agg cs) H) fun H1 => bnd (ldN 12 (.ptr o 0) H1) fun v => K (.tup [v, .bool b]) H1 := by
  obtain ⟨c2, hc, hl2⟩ := h.g2
  simp only [ast12 hc hl2 hl h1, bnd_some, ldN12 (get_put_self H o (.cells cs)) hl]
  exact k _ (h.hx.put h.lo _)
theorem FN.fail {H : AH} (h : FN H0 o H) (k : ∀ H', Ext H0 H' → K (.tup [.agg step0, .bool false]) H') :
    bnd (ldN 12 (.ptr (o + 1) 0) H) fun t => bnd (ast 12 (.ptr o 0) t H) fun H1 => bnd (ldN 12 (.ptr o 0) H1) fun v => K (.tup [v, .bool false]) H1 := by
  simp only [ldN12 h.g4 rfl, bnd_some]
  exact h.out rfl rfl k
theorem idx_ints {g : Grow} {l : List Nat} {i : Nat} {x : Nat} (hx : l[i]? = some x) : idxA 1 (.sl g 1 (l.map encN)) (.int .i64 i) = some (.elem [.int .i64 x] 0) := by
  have h2 : (0 : Int) ≤ (i : Int) := by omega
  have hgi : (l.map encN)[i]? = some (.int .i64 x) := by simp [hx, encN]
  simp only [idxA, h2, Int.toNat_natCast, hgi, if_true, AV.known, AV.cells]
  rfl
theorem number_lt {s : Bs} {n : Nat} (h : number s = some n) : n < 1000000000 := by
  unfold number at h
  split at h
  · rename_i hc
    cases h
    have := numOf_lt s 0 hc.2.2.1
    refine Nat.lt_of_lt_of_le this ?_
    rw [Nat.zero_add, Nat.one_mul]
    exact Nat.pow_le_pow_right (by omega) hc.2.1
  · cases h
theorem c_dStep_nums (h0 : Bs) (ws : List Bs) {g g' : Grow} (hw : WSmall ws) (hkind : h0 = wTick ∨ h0 = wFuse ∨ h0 = wCrash) (hok : ∀ ns s, numsD ws = some ns → tickD h0 ns = some s → ∀ H', Ext H0 H' → K (.tup [.agg (stepCells s .nils), .bool true]) H')
    (hno : (numsD ws = none ∨ ∃ ns, numsD ws = some ns ∧ tickD h0 ns = none) → ∀ H', Ext H0 H' → K (.tup [.agg step0, .bool false]) H') :
    ∀ (r : List Bs) (i : Nat) (ns : List Nat) (v : AV) (H : AH), ws.drop i = r → i ≤ ws.length → ns.length = i → (∀ l, numsD ws = some l ↔ ∃ l', numsD r = some l' ∧ l = ns ++ l') → IsGrow 1 encN H0 v ns H → FN H0 o H →
    LoopP (r_hostlerlaw21uStep_p4004 K) [.sl g' 1 ((h0 :: ws).map .str), .ptr o 0, .ptr (o + 1) 0, v, .sl g 1 (ws.map .str), .int .i64 ws.length, .int .i64 i] H
  | [], i, ns, v, H, hr, hil, hnl, hiff, hg, hf => by
    refine .fold ?_
    have hi : ws.length ≤ i := by simpa using hr
    have hlt : ¬ ((i : Int) < (ws.length : Int)) := by omega
    have hns : numsD ws = some ns := (hiff ns).2 ⟨[], rfl, by simp⟩
    have eh : idxA 1 (.sl g' 1 ((h0 :: ws).map .str)) (.int .i64 0) = some (.elem [.str h0] 0) := by simp [idxA, AV.known, AV.cells]
    have hlen : lenSl v = some (.int .i64 ns.length) := by
      rcases hg.isSl with ⟨rfl, rfl⟩ | ⟨gg, rfl⟩
      · rfl
      · simp
    have hsl : ns ≠ [] → ∃ gg, v = .sl gg 1 (ns.map encN) := fun hne => by
      rcases hg.isSl with ⟨rfl, hz⟩ | h
      · exact absurd hz hne
      · exact h
    have nf : wFuse ≠ wTick := by decide
    have nc : wCrash ≠ wTick := by decide
    have nc2 : wCrash ≠ wFuse := by decide
    have eT : (h0 == [116, 105, 99, 107]) = decide (h0 = wTick) := by rw [Bool.eq_iff_iff, beq_iff_eq, decide_eq_true_eq]; rfl
    have eF : (h0 == [102, 117, 115, 101]) = decide (h0 = wFuse) := by rw [Bool.eq_iff_iff, beq_iff_eq, decide_eq_true_eq]; rfl
    have eC : (h0 == [99, 114, 97, 115, 104]) = decide (h0 = wCrash) := by rw [Bool.eq_iff_iff, beq_iff_eq, decide_eq_true_eq]; rfl
    have e00 : [AV.int .i64 0, .int .i64 0, .str [], .str [], .str [], .int .i64 0, .int .i64 0, .int .i64 0, .int .i64 0, .nils, .int .i64 0, .int .i64 0] = step0 := rfl
    have l1 : ((ns.length : Int) == 1) = decide (ns.length = 1) := by rw [Bool.eq_iff_iff, beq_iff_eq, decide_eq_true_eq]; omega
    have l2 : ((ns.length : Int) == 2) = decide (ns.length = 2) := by rw [Bool.eq_iff_iff, beq_iff_eq, decide_eq_true_eq]; omega
    simp only [r_hostlerlaw21uStep_p4004, abin_i_add, abin_i_sub, abin_i_mul, abin_i_eql, abin_i_neq, abin_i_lss, abin_i_leq, abin_i_gtr, abin_i_geq, abin_s_eql, abin_s_neq, bnd_some, bnd_none, branch_bool, gwant_bool, gwant_nothing, aguard_some, wantE_some, pickV_bool, nilck_ptr, nilck_elem, aoff_ptr, aoff_elem, aun_not, aun_neg, lenStr_str, lenSl_nils, lenSl_sl, lenSl_osl, aextract_tup, ld1uelem, idxStr_str, amin2uint, amax2uint, rangeStr_str, sliceStr_from, sliceStr_to, List.getElem?_cons_zero, List.getElem?_cons_succ, Option.map_some, Option.bind_some, Int.toNat_natCast, Int.toNat_zero, Int.le_refl, Bool.not_true, Bool.not_false, Bool.not_not, Bool.false_eq_true, if_true, if_false, decide_eq_true_eq, beq_self_eq_true, bool_ft, bool_tf, decide_true, decide_false, reduceCtorEq, cmpNil, cmpRes, boxCells, AV.known, AV.cells, Nat.zero_add, and_self, and_true, true_and, ite_self, forall_const, not_true_eq_false, not_false_eq_true, hlt, eh, eT, eF, eC, hlen, l1, l2, e00]
    have bad : tickD h0 ns = none → bnd (ldN 12 (.ptr (o + 1) 0) H) fun t => bnd (ast 12 (.ptr o 0) t H) fun H1 => bnd (ldN 12 (.ptr o 0) H1) fun v => K (.tup [v, .bool false]) H1 := fun ht => hf.fail (hno (.inr ⟨ns, hns, ht⟩))
    rcases hkind with rfl | rfl | rfl
    · by_cases hl1 : ns.length = 1
      · obtain ⟨x, rfl⟩ := List.length_eq_one_iff.1 hl1
        obtain ⟨gg, rfl⟩ := hsl (by simp)
        have ei := idx_ints (g := gg) (l := [x]) (i := 0) rfl
        have ea : astruct [(0, 1), (1, 9), (10, 1), (11, 1)] step0 [(0, .int .i64 2), (2, .int .i64 x)] = some (.agg (stepCells { kind := 2, n := x } .nils)) := rfl
        simp only [abin_i_add, abin_i_sub, abin_i_mul, abin_i_eql, abin_i_neq, abin_i_lss, abin_i_leq, abin_i_gtr, abin_i_geq, abin_s_eql, abin_s_neq, bnd_some, bnd_none, branch_bool, gwant_bool, gwant_nothing, aguard_some, wantE_some, pickV_bool, nilck_ptr, nilck_elem, aoff_ptr, aoff_elem, aun_not, aun_neg, lenStr_str, lenSl_nils, lenSl_sl, lenSl_osl, aextract_tup, ld1uelem, idxStr_str, amin2uint, amax2uint, rangeStr_str, sliceStr_from, sliceStr_to, List.getElem?_cons_zero, List.getElem?_cons_succ, Option.map_some, Option.bind_some, Int.toNat_natCast, Int.toNat_zero, Int.le_refl, Bool.not_true, Bool.not_false, Bool.not_not, Bool.false_eq_true, if_true, if_false, decide_eq_true_eq, beq_self_eq_true, bool_ft, bool_tf, decide_true, decide_false, reduceCtorEq, cmpNil, cmpRes, boxCells, AV.known, AV.cells, Nat.zero_add, and_self, and_true, true_and, ite_self, forall_const, not_true_eq_false, not_false_eq_true, ei, ea]
        exact hf.out (cs := stepCells { kind := 2, n := x } .nils) rfl rfl (hok [x] { kind := 2, n := x } hns (by simp [tickD]))
      · simp only [abin_i_add, abin_i_sub, abin_i_mul, abin_i_eql, abin_i_neq, abin_i_lss, abin_i_leq, abin_i_gtr, abin_i_geq, abin_s_eql, abin_s_neq, bnd_some, bnd_none, branch_bool, gwant_bool, gwant_nothing, aguard_some, wantE_some, pickV_bool, nilck_ptr, nilck_elem, aoff_ptr, aoff_elem, aun_not, aun_neg, lenStr_str, lenSl_nils, lenSl_sl, lenSl_osl, aextract_tup, ld1uelem, idxStr_str, amin2uint, amax2uint, rangeStr_str, sliceStr_from, sliceStr_to, List.getElem?_cons_zero, List.getElem?_cons_succ, Option.map_some, Option.bind_some, Int.toNat_natCast, Int.toNat_zero, Int.le_refl, Bool.not_true, Bool.not_false, Bool.not_not, Bool.false_eq_true, if_true, if_false, decide_eq_true_eq, beq_self_eq_true, bool_ft, bool_tf, decide_true, decide_false, reduceCtorEq, cmpNil, cmpRes, boxCells, AV.known, AV.cells, Nat.zero_add, and_self, and_true, true_and, ite_self, forall_const, not_true_eq_false, not_false_eq_true, hl1, nf.symm, nc.symm]
        exact bad (by simp [tickD, hl1, nf.symm, nc.symm])
    · by_cases hl1 : ns.length = 1
      · obtain ⟨x, rfl⟩ := List.length_eq_one_iff.1 hl1
        obtain ⟨gg, rfl⟩ := hsl (by simp)
        have ei := idx_ints (g := gg) (l := [x]) (i := 0) rfl
        have ea : astruct [(0, 1), (1, 9), (10, 1), (11, 1)] step0 [(0, .int .i64 3), (2, .int .i64 x)] = some (.agg (stepCells { kind := 3, n := x } .nils)) := rfl
        simp only [abin_i_add, abin_i_sub, abin_i_mul, abin_i_eql, abin_i_neq, abin_i_lss, abin_i_leq, abin_i_gtr, abin_i_geq, abin_s_eql, abin_s_neq, bnd_some, bnd_none, branch_bool, gwant_bool, gwant_nothing, aguard_some, wantE_some, pickV_bool, nilck_ptr, nilck_elem, aoff_ptr, aoff_elem, aun_not, aun_neg, lenStr_str, lenSl_nils, lenSl_sl, lenSl_osl, aextract_tup, ld1uelem, idxStr_str, amin2uint, amax2uint, rangeStr_str, sliceStr_from, sliceStr_to, List.getElem?_cons_zero, List.getElem?_cons_succ, Option.map_some, Option.bind_some, Int.toNat_natCast, Int.toNat_zero, Int.le_refl, Bool.not_true, Bool.not_false, Bool.not_not, Bool.false_eq_true, if_true, if_false, decide_eq_true_eq, beq_self_eq_true, bool_ft, bool_tf, decide_true, decide_false, reduceCtorEq, cmpNil, cmpRes, boxCells, AV.known, AV.cells, Nat.zero_add, and_self, and_true, true_and, ite_self, forall_const, not_true_eq_false, not_false_eq_true, ei, ea, nf]
        exact hf.out (cs := stepCells { kind := 3, n := x } .nils) rfl rfl (hok [x] { kind := 3, n := x } hns (by simp [tickD, nf]))
      · simp only [abin_i_add, abin_i_sub, abin_i_mul, abin_i_eql, abin_i_neq, abin_i_lss, abin_i_leq, abin_i_gtr, abin_i_geq, abin_s_eql, abin_s_neq, bnd_some, bnd_none, branch_bool, gwant_bool, gwant_nothing, aguard_some, wantE_some, pickV_bool, nilck_ptr, nilck_elem, aoff_ptr, aoff_elem, aun_not, aun_neg, lenStr_str, lenSl_nils, lenSl_sl, lenSl_osl, aextract_tup, ld1uelem, idxStr_str, amin2uint, amax2uint, rangeStr_str, sliceStr_from, sliceStr_to, List.getElem?_cons_zero, List.getElem?_cons_succ, Option.map_some, Option.bind_some, Int.toNat_natCast, Int.toNat_zero, Int.le_refl, Bool.not_true, Bool.not_false, Bool.not_not, Bool.false_eq_true, if_true, if_false, decide_eq_true_eq, beq_self_eq_true, bool_ft, bool_tf, decide_true, decide_false, reduceCtorEq, cmpNil, cmpRes, boxCells, AV.known, AV.cells, Nat.zero_add, and_self, and_true, true_and, ite_self, forall_const, not_true_eq_false, not_false_eq_true, hl1, nf, nc2.symm]
        exact bad (by simp [tickD, hl1, nf, nc2.symm])
    · by_cases hl1 : ns.length = 1
      · obtain ⟨x, rfl⟩ := List.length_eq_one_iff.1 hl1
        obtain ⟨gg, rfl⟩ := hsl (by simp)
        have ei := idx_ints (g := gg) (l := [x]) (i := 0) rfl
        have ea : astruct [(0, 1), (1, 9), (10, 1), (11, 1)] step0 [(0, .int .i64 4), (2, .int .i64 x), (3, .int .i64 (-1))] = some (.agg (stepCells { kind := 4, n := x, m := -1 } .nils)) := rfl
        simp only [abin_i_add, abin_i_sub, abin_i_mul, abin_i_eql, abin_i_neq, abin_i_lss, abin_i_leq, abin_i_gtr, abin_i_geq, abin_s_eql, abin_s_neq, bnd_some, bnd_none, branch_bool, gwant_bool, gwant_nothing, aguard_some, wantE_some, pickV_bool, nilck_ptr, nilck_elem, aoff_ptr, aoff_elem, aun_not, aun_neg, lenStr_str, lenSl_nils, lenSl_sl, lenSl_osl, aextract_tup, ld1uelem, idxStr_str, amin2uint, amax2uint, rangeStr_str, sliceStr_from, sliceStr_to, List.getElem?_cons_zero, List.getElem?_cons_succ, Option.map_some, Option.bind_some, Int.toNat_natCast, Int.toNat_zero, Int.le_refl, Bool.not_true, Bool.not_false, Bool.not_not, Bool.false_eq_true, if_true, if_false, decide_eq_true_eq, beq_self_eq_true, bool_ft, bool_tf, decide_true, decide_false, reduceCtorEq, cmpNil, cmpRes, boxCells, AV.known, AV.cells, Nat.zero_add, and_self, and_true, true_and, ite_self, forall_const, not_true_eq_false, not_false_eq_true, ei, ea, nc, nc2]
        exact hf.out (cs := stepCells { kind := 4, n := x, m := -1 } .nils) rfl rfl (hok [x] { kind := 4, n := x, m := -1 } hns (by simp [tickD, nc, nc2]))
      · by_cases hl2 : ns.length = 2
        · obtain ⟨x, y, rfl⟩ : ∃ x y, ns = [x, y] := by
            match ns, hl2 with
            | [x, y], _ => exact ⟨x, y, rfl⟩
          obtain ⟨gg, rfl⟩ := hsl (by simp)
          have ei := idx_ints (g := gg) (l := [x, y]) (i := 0) rfl
          have ej := idx_ints (g := gg) (l := [x, y]) (i := 1) rfl
          have ea : astruct [(0, 1), (1, 9), (10, 1), (11, 1)] step0 [(0, .int .i64 4), (2, .int .i64 x), (3, .int .i64 y)] = some (.agg (stepCells { kind := 4, n := x, m := y } .nils)) := rfl
          have ej' : idxA 1 (.sl gg 1 ([x, y].map encN)) (.int .i64 1) = some (.elem [.int .i64 y] 0) := ej
          have ei' : idxA 1 (.sl gg 1 ([x, y].map encN)) (.int .i64 0) = some (.elem [.int .i64 x] 0) := ei
          simp only [abin_i_add, abin_i_sub, abin_i_mul, abin_i_eql, abin_i_neq, abin_i_lss, abin_i_leq, abin_i_gtr, abin_i_geq, abin_s_eql, abin_s_neq, bnd_some, bnd_none, branch_bool, gwant_bool, gwant_nothing, aguard_some, wantE_some, pickV_bool, nilck_ptr, nilck_elem, aoff_ptr, aoff_elem, aun_not, aun_neg, lenStr_str, lenSl_nils, lenSl_sl, lenSl_osl, aextract_tup, ld1uelem, idxStr_str, amin2uint, amax2uint, rangeStr_str, sliceStr_from, sliceStr_to, List.getElem?_cons_zero, List.getElem?_cons_succ, Option.map_some, Option.bind_some, Int.toNat_natCast, Int.toNat_zero, Int.le_refl, Bool.not_true, Bool.not_false, Bool.not_not, Bool.false_eq_true, if_true, if_false, decide_eq_true_eq, beq_self_eq_true, bool_ft, bool_tf, decide_true, decide_false, reduceCtorEq, cmpNil, cmpRes, boxCells, AV.known, AV.cells, Nat.zero_add, and_self, and_true, true_and, ite_self, forall_const, not_true_eq_false, not_false_eq_true, ei', ej', ea, nc, nc2, hl1, hl2]
          exact hf.out (cs := stepCells { kind := 4, n := x, m := y } .nils) rfl rfl (hok [x, y] { kind := 4, n := x, m := y } hns (by simp [tickD, nc, nc2]))
        · simp only [abin_i_add, abin_i_sub, abin_i_mul, abin_i_eql, abin_i_neq, abin_i_lss, abin_i_leq, abin_i_gtr, abin_i_geq, abin_s_eql, abin_s_neq, bnd_some, bnd_none, branch_bool, gwant_bool, gwant_nothing, aguard_some, wantE_some, pickV_bool, nilck_ptr, nilck_elem, aoff_ptr, aoff_elem, aun_not, aun_neg, lenStr_str, lenSl_nils, lenSl_sl, lenSl_osl, aextract_tup, ld1uelem, idxStr_str, amin2uint, amax2uint, rangeStr_str, sliceStr_from, sliceStr_to, List.getElem?_cons_zero, List.getElem?_cons_succ, Option.map_some, Option.bind_some, Int.toNat_natCast, Int.toNat_zero, Int.le_refl, Bool.not_true, Bool.not_false, Bool.not_not, Bool.false_eq_true, if_true, if_false, decide_eq_true_eq, beq_self_eq_true, bool_ft, bool_tf, decide_true, decide_false, reduceCtorEq, cmpNil, cmpRes, boxCells, AV.known, AV.cells, Nat.zero_add, and_self, and_true, true_and, ite_self, forall_const, not_true_eq_false, not_false_eq_true, hl1, hl2, nc, nc2]
          exact bad (by simp [tickD, hl1, hl2, nc, nc2])
  | s :: r, i, ns, v, H, hr, hil, hnl, hiff, hg, hf => by
    refine .fold ?_
    obtain ⟨hx, hlt, hr', ht⟩ := drop_at hr
    have h1 : ((i : Int) < (ws.length : Int)) := by omega
    have hwl := hw.1
    simp only [r_hostlerlaw21uStep_p4004, abin_i_add, abin_i_sub, abin_i_mul, abin_i_eql, abin_i_neq, abin_i_lss, abin_i_leq, abin_i_gtr, abin_i_geq, abin_s_eql, abin_s_neq, bnd_some, bnd_none, branch_bool, gwant_bool, gwant_nothing, aguard_some, wantE_some, pickV_bool, nilck_ptr, nilck_elem, aoff_ptr, aoff_elem, aun_not, aun_neg, lenStr_str, lenSl_nils, lenSl_sl, lenSl_osl, aextract_tup, ld1uelem, idxStr_str, amin2uint, amax2uint, rangeStr_str, sliceStr_from, sliceStr_to, List.getElem?_cons_zero, List.getElem?_cons_succ, Option.map_some, Option.bind_some, Int.toNat_natCast, Int.toNat_zero, Int.le_refl, Bool.not_true, Bool.not_false, Bool.not_not, Bool.false_eq_true, if_true, if_false, decide_eq_true_eq, beq_self_eq_true, bool_ft, bool_tf, decide_true, decide_false, reduceCtorEq, cmpNil, cmpRes, boxCells, AV.known, AV.cells, Nat.zero_add, and_self, and_true, true_and, ite_self, forall_const, not_true_eq_false, not_false_eq_true, h1, idx_strs hx]
    refine c_dNumber s ?_
    simp only [numsD] at hiff
    cases hn : number s with
    | none =>
      simp only [hn] at hiff
      simp only [abin_i_add, abin_i_sub, abin_i_mul, abin_i_eql, abin_i_neq, abin_i_lss, abin_i_leq, abin_i_gtr, abin_i_geq, abin_s_eql, abin_s_neq, bnd_some, bnd_none, branch_bool, gwant_bool, gwant_nothing, aguard_some, wantE_some, pickV_bool, nilck_ptr, nilck_elem, aoff_ptr, aoff_elem, aun_not, aun_neg, lenStr_str, lenSl_nils, lenSl_sl, lenSl_osl, aextract_tup, ld1uelem, idxStr_str, amin2uint, amax2uint, rangeStr_str, sliceStr_from, sliceStr_to, List.getElem?_cons_zero, List.getElem?_cons_succ, Option.map_some, Option.bind_some, Int.toNat_natCast, Int.toNat_zero, Int.le_refl, Bool.not_true, Bool.not_false, Bool.not_not, Bool.false_eq_true, if_true, if_false, decide_eq_true_eq, beq_self_eq_true, bool_ft, bool_tf, decide_true, decide_false, reduceCtorEq, cmpNil, cmpRes, boxCells, AV.known, AV.cells, Nat.zero_add, and_self, and_true, true_and, ite_self, forall_const, not_true_eq_false, not_false_eq_true, Option.isSome_none]
      refine hf.fail (hno (.inl ?_))
      cases hd : numsD ws with
      | none => rfl
      | some l => obtain ⟨l', hl', _⟩ := (hiff l).1 hd; cases hl'
    | some x =>
      simp only [hn] at hiff
      simp only [abin_i_add, abin_i_sub, abin_i_mul, abin_i_eql, abin_i_neq, abin_i_lss, abin_i_leq, abin_i_gtr, abin_i_geq, abin_s_eql, abin_s_neq, bnd_some, bnd_none, branch_bool, gwant_bool, gwant_nothing, aguard_some, wantE_some, pickV_bool, nilck_ptr, nilck_elem, aoff_ptr, aoff_elem, aun_not, aun_neg, lenStr_str, lenSl_nils, lenSl_sl, lenSl_osl, aextract_tup, ld1uelem, idxStr_str, amin2uint, amax2uint, rangeStr_str, sliceStr_from, sliceStr_to, List.getElem?_cons_zero, List.getElem?_cons_succ, Option.map_some, Option.bind_some, Int.toNat_natCast, Int.toNat_zero, Int.le_refl, Bool.not_true, Bool.not_false, Bool.not_not, Bool.false_eq_true, if_true, if_false, decide_eq_true_eq, beq_self_eq_true, bool_ft, bool_tf, decide_true, decide_false, reduceCtorEq, cmpNil, cmpRes, boxCells, AV.known, AV.cells, Nat.zero_add, and_self, and_true, true_and, ite_self, forall_const, not_true_eq_false, not_false_eq_true, Option.isSome_some, Option.getD_some, buildSl_one 1 (.int .i64 ((x : Nat) : Int)) rfl rfl]
      have hln : [x].length = 1 := rfl
      refine hg.app (xs := [x]) (by_ := 8) hf.hx (.inr ⟨_, rfl⟩) (by omega) (by omega) rfl fun v' H' hg' hx' hgt hnx => ?_
      simp only [abin_i_add, abin_i_sub, abin_i_mul, abin_i_eql, abin_i_neq, abin_i_lss, abin_i_leq, abin_i_gtr, abin_i_geq, abin_s_eql, abin_s_neq, bnd_some, bnd_none, branch_bool, gwant_bool, gwant_nothing, aguard_some, wantE_some, pickV_bool, nilck_ptr, nilck_elem, aoff_ptr, aoff_elem, aun_not, aun_neg, lenStr_str, lenSl_nils, lenSl_sl, lenSl_osl, aextract_tup, ld1uelem, idxStr_str, amin2uint, amax2uint, rangeStr_str, sliceStr_from, sliceStr_to, List.getElem?_cons_zero, List.getElem?_cons_succ, Option.map_some, Option.bind_some, Int.toNat_natCast, Int.toNat_zero, Int.le_refl, Bool.not_true, Bool.not_false, Bool.not_not, Bool.false_eq_true, if_true, if_false, decide_eq_true_eq, beq_self_eq_true, bool_ft, bool_tf, decide_true, decide_false, reduceCtorEq, cmpNil, cmpRes, boxCells, AV.known, AV.cells, Nat.zero_add, and_self, and_true, true_and, ite_self, forall_const, not_true_eq_false, not_false_eq_true, i_succ (show i < 9223372036854775807 by omega)]
      refine c_dStep_nums h0 ws hw hkind hok hno r (i + 1) (ns ++ [x]) v' H' hr' (by omega) (by simp [hnl]) (fun l => ?_) hg' (hf.grown hgt hnx hx')
      rw [hiff l]
      constructor
      · rintro ⟨l', hl', rfl⟩
        obtain ⟨l2, hl2, rfl⟩ := Option.map_eq_some_iff.1 hl'
        exact ⟨l2, hl2, by simp⟩
      · rintro ⟨l2, hl2, rfl⟩
        exact ⟨x :: l2, by rw [hl2]; rfl, by simp⟩
end
end Go.Va

/-
  Contracts: the document's reading of a line, its fields.
-/
set_option linter.unusedVariables false
set_option linter.unusedSimpArgs false
set_option maxRecDepth 100000
namespace Go.Va
theorem FS.app {H0 H H' : AH} {o : Nat} {m : Msg} {iv v' : AV} {xs : List Item} (h : FS H0 o m iv H) (hg : H'.get = H.get) (hn : H.next ≤ H'.next) (hx : Ext H0 H') (hgr : IsGrow 2 encItem H0 v' (m.items ++ xs) H') :
    FS H0 o { m with items := m.items ++ xs } v' (H'.put (o + 2) (.cells (msgCells { m with items := m.items ++ xs } v'))) := by
  obtain ⟨c2, hc, hl⟩ := h.g2
  have hhi := h.hi
  have hlo := h.lo
  exact ⟨h.lo, by simp only [next_put]; omega, ⟨c2, by rw [get_put_ne _ _ (by omega), hg]; exact hc, hl⟩, by rw [get_put_ne _ _ (by omega), hg]; exact h.g4, get_put_self _ _ _, hgr.mono (Nat.le_refl _) (fun _ _ => rfl), hx.put (by omega) _⟩
theorem sliceSl_from3 (g : Grow) (x y z : AV) (l : List AV) : sliceSl 1 (.sl g 1 (x :: y :: z :: l)) (some (.int .i64 3)) none none = some (.sl g 1 l) := by
  have h : (0 : Int) ≤ 3 ∧ (3 : Int) ≤ ((l.length + 1 + 1 + 1 : Nat) : Int) := by omega
  simp [sliceSl, abound]
  omega
theorem acplx_f (a b : Nat) : acplx (.float .f64 a) (.float .f64 b) = some (.cplx .f64 a b) := by simp [acplx]
section
variable {K : AV → AH → Prop} {H0 : AH} {o : Nat}
theorem c_dStep_items {Y : List AV → AH → Prop} {g : Grow} {fv fl' : AV} {i : Nat} (hi : i < 1000000000) :
    ∀ (n : Nat) (ws : List Bs) (m : Msg) (iv : AV) (H : AH), ws.length ≤ n → WSmall ws → m.items.length + ws.length ≤ 1000000000 → FS H0 o m iv H → (itemsD (m.kind != 5) ws = none → ∀ H', Ext H0 H' → K (.tup [.agg step0, .bool false]) H') →
    (∀ l iv' H', itemsD (m.kind != 5) ws = some l → FS H0 o { m with items := m.items ++ l } iv' H' → Y [.ptr o 0, .ptr (o + 1) 0, .ptr (o + 2) 0, .sl g 1 [], fv, fl', .int .i64 ((i + 1 : Nat) : Int)] H') →
    LoopP (r_hostlerlaw21uStep_p33531472 K Y) [.ptr o 0, .ptr (o + 1) 0, .ptr (o + 2) 0, .sl g 1 (ws.map .str), fv, fl', .int .i64 i] H
  | _, [], m, iv, H, hn, hw, hml, hf, hno, hok => by
    refine .fold ?_
    have hz : ¬ ((0 : Int) > 0) := by omega
    simp only [r_hostlerlaw21uStep_p33531472, abin_i_add, abin_i_sub, abin_i_mul, abin_i_eql, abin_i_neq, abin_i_lss, abin_i_leq, abin_i_gtr, abin_i_geq, abin_s_eql, abin_s_neq, bnd_some, bnd_none, branch_bool, gwant_bool, gwant_nothing, aguard_some, wantE_some, pickV_bool, nilck_ptr, nilck_elem, aoff_ptr, aoff_elem, aun_not, aun_neg, lenStr_str, lenSl_nils, lenSl_sl, lenSl_osl, aextract_tup, ld1uelem, idxStr_str, amin2uint, amax2uint, rangeStr_str, sliceStr_from, sliceStr_to, List.getElem?_cons_zero, List.getElem?_cons_succ, Option.map_some, Option.bind_some, Int.toNat_natCast, Int.toNat_zero, Int.le_refl, Bool.not_true, Bool.not_false, Bool.not_not, Bool.false_eq_true, if_true, if_false, decide_eq_true_eq, beq_self_eq_true, bool_ft, bool_tf, decide_true, decide_false, reduceCtorEq, cmpNil, cmpRes, boxCells, AV.known, AV.cells, Nat.zero_add, and_self, and_true, true_and, ite_self, forall_const, not_true_eq_false, not_false_eq_true, List.map_nil, List.length_nil, Int.natCast_zero, Int.ofNat_zero, show (((0 : Nat) : Int)) = 0 from rfl, hz, r_hostlerlaw21uStep_p130983, i_succ (show i < 9223372036854775807 by omega)]
    refine hok [] iv H ?_ ?_
    · cases (m.kind != 5) <;> rfl
    · simpa using hf
  | 0, t :: r, m, iv, H, hn, hw, hml, hf, hno, hok => by simp at hn
  | n + 1, t :: r, m, iv, H, hn, hw, hml, hf, hno, hok => by
    refine .fold ?_
    have hz : (((AV.str t :: r.map AV.str).length : Nat) : Int) > 0 := by simp only [List.length_cons]; omega
    have ei : idxA 1 (.sl g 1 (AV.str t :: r.map .str)) (.int .i64 0) = some (.elem [.str t] 0) := by simp [idxA, AV.known, AV.cells]
    have e0 : (msgCells m iv)[0]? = some (.int .i64 m.kind) := rfl
    have e8 : (msgCells m iv)[8]? = some iv := rfl
    have L := fun i => ld1uptr hf.g10 i
    have hln : ∀ x : Item, [x].length = 1 := fun _ => rfl
    by_cases h5 : m.kind = 5
    · have e5 : (m.kind == 5) = true := by simp [h5]
      have ne5 : (m.kind != 5) = false := by simp [h5]
      have ea : astruct [(0, 1), (1, 1)] [.str [], .cplx .f64 0 0] [(0, .str t)] = some (.agg [.str t, .cplx .f64 0 0]) := rfl
      simp only [r_hostlerlaw21uStep_p33531472, abin_i_add, abin_i_sub, abin_i_mul, abin_i_eql, abin_i_neq, abin_i_lss, abin_i_leq, abin_i_gtr, abin_i_geq, abin_s_eql, abin_s_neq, bnd_some, bnd_none, branch_bool, gwant_bool, gwant_nothing, aguard_some, wantE_some, pickV_bool, nilck_ptr, nilck_elem, aoff_ptr, aoff_elem, aun_not, aun_neg, lenStr_str, lenSl_nils, lenSl_sl, lenSl_osl, aextract_tup, ld1uelem, idxStr_str, amin2uint, amax2uint, rangeStr_str, sliceStr_from, sliceStr_to, List.getElem?_cons_zero, List.getElem?_cons_succ, Option.map_some, Option.bind_some, Int.toNat_natCast, Int.toNat_zero, Int.le_refl, Bool.not_true, Bool.not_false, Bool.not_not, Bool.false_eq_true, if_true, if_false, decide_eq_true_eq, beq_self_eq_true, bool_ft, bool_tf, decide_true, decide_false, reduceCtorEq, cmpNil, cmpRes, boxCells, AV.known, AV.cells, Nat.zero_add, and_self, and_true, true_and, ite_self, forall_const, not_true_eq_false, not_false_eq_true, List.map_cons, hz, L, e0, e8, e5, ei, ea, buildSl_one 2 (.agg [.str t, .cplx .f64 0 0]) rfl rfl, sliceSl_from1]
      have hml' := hml
      simp only [List.length_cons] at hml'
      have hln1 := hln ⟨t, 0, 0⟩
      refine hf.gr.app (xs := [⟨t, 0, 0⟩]) (by_ := 32) hf.hx (.inr ⟨.full, by simp [encItem, fl_zero]⟩) (by omega) (by omega) rfl fun v' H' hg' hx' hgt hnx => ?_
      have h10 : H'.get (o + 2) = some (.cells (msgCells m iv)) := by rw [hgt]; exact hf.g10
      have hast : ast 1 (.ptr (o + 2) 8) v' H' = some (H'.put (o + 2) (.cells (msgCells { m with items := m.items ++ [⟨t, 0, 0⟩] } v'))) := ast1uptr h10 hg'.isSl.one (show 8 < 9 by omega)
      simp only [hast, bnd_some]
      refine c_dStep_items hi n r { m with items := m.items ++ [⟨t, 0, 0⟩] } v' _ (by simpa using hn) ⟨by have := hw.1; simp at this; omega, fun s hs => hw.2 s (List.mem_cons_of_mem _ hs)⟩ (by simp; omega) (hf.app hgt hnx hx' hg') (fun hh => hno ?_) fun l iv' H2 hl hf2 => ?_
      · have hh' : itemsD (m.kind != 5) r = none := hh
        rw [ne5] at hh'; simp [itemsD] at hh'
      have hl' : itemsD (m.kind != 5) r = some l := hl
      rw [ne5] at hl'
      simp only [itemsD, Bool.false_eq_true, if_false, Option.some.injEq] at hl'
      refine hok (⟨t, 0, 0⟩ :: l) iv' H2 (by rw [ne5]; simp only [itemsD, Bool.false_eq_true, if_false, List.map_cons, ← hl']) ?_
      simpa using hf2
    · have e5 : (m.kind == 5) = false := by simpa using h5
      have ne5 : (m.kind != 5) = true := by simpa using h5
      match r, hok, hno, hn, hw, hml, hz, ei with
      | [], hok, hno, hn, hw, hml, hz, ei =>
        have hl3 : (((AV.str t :: List.map AV.str []).length : Nat) : Int) < 3 := by simp
        simp only [r_hostlerlaw21uStep_p33531472, abin_i_add, abin_i_sub, abin_i_mul, abin_i_eql, abin_i_neq, abin_i_lss, abin_i_leq, abin_i_gtr, abin_i_geq, abin_s_eql, abin_s_neq, bnd_some, bnd_none, branch_bool, gwant_bool, gwant_nothing, aguard_some, wantE_some, pickV_bool, nilck_ptr, nilck_elem, aoff_ptr, aoff_elem, aun_not, aun_neg, lenStr_str, lenSl_nils, lenSl_sl, lenSl_osl, aextract_tup, ld1uelem, idxStr_str, amin2uint, amax2uint, rangeStr_str, sliceStr_from, sliceStr_to, List.getElem?_cons_zero, List.getElem?_cons_succ, Option.map_some, Option.bind_some, Int.toNat_natCast, Int.toNat_zero, Int.le_refl, Bool.not_true, Bool.not_false, Bool.not_not, Bool.false_eq_true, if_true, if_false, decide_eq_true_eq, beq_self_eq_true, bool_ft, bool_tf, decide_true, decide_false, reduceCtorEq, cmpNil, cmpRes, boxCells, AV.known, AV.cells, Nat.zero_add, and_self, and_true, true_and, ite_self, forall_const, not_true_eq_false, not_false_eq_true, List.map_cons, hz, L, e0, e5, hl3]
        exact hf.fn.fail (hno (by rw [ne5]; rfl))
      | [a], hok, hno, hn, hw, hml, hz, ei =>
        have hl3 : (((AV.str t :: List.map AV.str [a]).length : Nat) : Int) < 3 := by simp
        simp only [List.map_cons, List.map_nil] at hl3 hz
        simp only [r_hostlerlaw21uStep_p33531472, abin_i_add, abin_i_sub, abin_i_mul, abin_i_eql, abin_i_neq, abin_i_lss, abin_i_leq, abin_i_gtr, abin_i_geq, abin_s_eql, abin_s_neq, bnd_some, bnd_none, branch_bool, gwant_bool, gwant_nothing, aguard_some, wantE_some, pickV_bool, nilck_ptr, nilck_elem, aoff_ptr, aoff_elem, aun_not, aun_neg, lenStr_str, lenSl_nils, lenSl_sl, lenSl_osl, aextract_tup, ld1uelem, idxStr_str, amin2uint, amax2uint, rangeStr_str, sliceStr_from, sliceStr_to, List.getElem?_cons_zero, List.getElem?_cons_succ, Option.map_some, Option.bind_some, Int.toNat_natCast, Int.toNat_zero, Int.le_refl, Bool.not_true, Bool.not_false, Bool.not_not, Bool.false_eq_true, if_true, if_false, decide_eq_true_eq, beq_self_eq_true, bool_ft, bool_tf, decide_true, decide_false, reduceCtorEq, cmpNil, cmpRes, boxCells, AV.known, AV.cells, Nat.zero_add, and_self, and_true, true_and, ite_self, forall_const, not_true_eq_false, not_false_eq_true, List.map_cons, List.map_nil, hz, L, e0, e5, hl3]
        exact hf.fn.fail (hno (by rw [ne5]; rfl))
      | a :: b :: r', hok, hno, hn, hw, hml, hz, ei =>
        have hl3 : ¬ (((AV.str t :: AV.str a :: AV.str b :: r'.map AV.str).length : Nat) : Int) < 3 := by simp only [List.length_cons]; omega
        have e1 : idxA 1 (.sl g 1 (AV.str t :: AV.str a :: AV.str b :: r'.map .str)) (.int .i64 1) = some (.elem [.str a] 0) := by
          simp only [idxA, show (0 : Int) ≤ 1 from by decide, if_true]; rfl
        have e2 : idxA 1 (.sl g 1 (AV.str t :: AV.str a :: AV.str b :: r'.map .str)) (.int .i64 2) = some (.elem [.str b] 0) := by
          simp only [idxA, show (0 : Int) ≤ 2 from by decide, if_true]; rfl
        simp only [List.map_cons] at hz ei
        simp only [r_hostlerlaw21uStep_p33531472, abin_i_add, abin_i_sub, abin_i_mul, abin_i_eql, abin_i_neq, abin_i_lss, abin_i_leq, abin_i_gtr, abin_i_geq, abin_s_eql, abin_s_neq, bnd_some, bnd_none, branch_bool, gwant_bool, gwant_nothing, aguard_some, wantE_some, pickV_bool, nilck_ptr, nilck_elem, aoff_ptr, aoff_elem, aun_not, aun_neg, lenStr_str, lenSl_nils, lenSl_sl, lenSl_osl, aextract_tup, ld1uelem, idxStr_str, amin2uint, amax2uint, rangeStr_str, sliceStr_from, sliceStr_to, List.getElem?_cons_zero, List.getElem?_cons_succ, Option.map_some, Option.bind_some, Int.toNat_natCast, Int.toNat_zero, Int.le_refl, Bool.not_true, Bool.not_false, Bool.not_not, Bool.false_eq_true, if_true, if_false, decide_eq_true_eq, beq_self_eq_true, bool_ft, bool_tf, decide_true, decide_false, reduceCtorEq, cmpNil, cmpRes, boxCells, AV.known, AV.cells, Nat.zero_add, and_self, and_true, true_and, ite_self, forall_const, not_true_eq_false, not_false_eq_true, List.map_cons, hz, L, e0, e5, hl3, e1]
        refine c_dNumber a ?_
        simp only [abin_i_add, abin_i_sub, abin_i_mul, abin_i_eql, abin_i_neq, abin_i_lss, abin_i_leq, abin_i_gtr, abin_i_geq, abin_s_eql, abin_s_neq, bnd_some, bnd_none, branch_bool, gwant_bool, gwant_nothing, aguard_some, wantE_some, pickV_bool, nilck_ptr, nilck_elem, aoff_ptr, aoff_elem, aun_not, aun_neg, lenStr_str, lenSl_nils, lenSl_sl, lenSl_osl, aextract_tup, ld1uelem, idxStr_str, amin2uint, amax2uint, rangeStr_str, sliceStr_from, sliceStr_to, List.getElem?_cons_zero, List.getElem?_cons_succ, Option.map_some, Option.bind_some, Int.toNat_natCast, Int.toNat_zero, Int.le_refl, Bool.not_true, Bool.not_false, Bool.not_not, Bool.false_eq_true, if_true, if_false, decide_eq_true_eq, beq_self_eq_true, bool_ft, bool_tf, decide_true, decide_false, reduceCtorEq, cmpNil, cmpRes, boxCells, AV.known, AV.cells, Nat.zero_add, and_self, and_true, true_and, ite_self, forall_const, not_true_eq_false, not_false_eq_true, e2]
        refine c_dNumber b ?_
        cases ha : number a with
        | none =>
          simp only [abin_i_add, abin_i_sub, abin_i_mul, abin_i_eql, abin_i_neq, abin_i_lss, abin_i_leq, abin_i_gtr, abin_i_geq, abin_s_eql, abin_s_neq, bnd_some, bnd_none, branch_bool, gwant_bool, gwant_nothing, aguard_some, wantE_some, pickV_bool, nilck_ptr, nilck_elem, aoff_ptr, aoff_elem, aun_not, aun_neg, lenStr_str, lenSl_nils, lenSl_sl, lenSl_osl, aextract_tup, ld1uelem, idxStr_str, amin2uint, amax2uint, rangeStr_str, sliceStr_from, sliceStr_to, List.getElem?_cons_zero, List.getElem?_cons_succ, Option.map_some, Option.bind_some, Int.toNat_natCast, Int.toNat_zero, Int.le_refl, Bool.not_true, Bool.not_false, Bool.not_not, Bool.false_eq_true, if_true, if_false, decide_eq_true_eq, beq_self_eq_true, bool_ft, bool_tf, decide_true, decide_false, reduceCtorEq, cmpNil, cmpRes, boxCells, AV.known, AV.cells, Nat.zero_add, and_self, and_true, true_and, ite_self, forall_const, not_true_eq_false, not_false_eq_true, Option.isSome_none]
          exact hf.fn.fail (hno (by rw [ne5]; simp only [itemsD, if_true, itemsT, ha, Option.bind_none]))
        | some x =>
          cases hb : number b with
          | none =>
            simp only [abin_i_add, abin_i_sub, abin_i_mul, abin_i_eql, abin_i_neq, abin_i_lss, abin_i_leq, abin_i_gtr, abin_i_geq, abin_s_eql, abin_s_neq, bnd_some, bnd_none, branch_bool, gwant_bool, gwant_nothing, aguard_some, wantE_some, pickV_bool, nilck_ptr, nilck_elem, aoff_ptr, aoff_elem, aun_not, aun_neg, lenStr_str, lenSl_nils, lenSl_sl, lenSl_osl, aextract_tup, ld1uelem, idxStr_str, amin2uint, amax2uint, rangeStr_str, sliceStr_from, sliceStr_to, List.getElem?_cons_zero, List.getElem?_cons_succ, Option.map_some, Option.bind_some, Int.toNat_natCast, Int.toNat_zero, Int.le_refl, Bool.not_true, Bool.not_false, Bool.not_not, Bool.false_eq_true, if_true, if_false, decide_eq_true_eq, beq_self_eq_true, bool_ft, bool_tf, decide_true, decide_false, reduceCtorEq, cmpNil, cmpRes, boxCells, AV.known, AV.cells, Nat.zero_add, and_self, and_true, true_and, ite_self, forall_const, not_true_eq_false, not_false_eq_true, Option.isSome_none, Option.isSome_some]
            exact hf.fn.fail (hno (by rw [ne5]; simp only [itemsD, if_true, itemsT, ha, hb, Option.bind_some, Option.bind_none]))
          | some y =>
            have ea : astruct [(0, 1), (1, 1)] [.str [], .cplx .f64 0 0] [(0, .str t), (1, .cplx .f64 (fl x) (fl y))] = some (.agg [.str t, .cplx .f64 (fl x) (fl y)]) := rfl
            simp only [abin_i_add, abin_i_sub, abin_i_mul, abin_i_eql, abin_i_neq, abin_i_lss, abin_i_leq, abin_i_gtr, abin_i_geq, abin_s_eql, abin_s_neq, bnd_some, bnd_none, branch_bool, gwant_bool, gwant_nothing, aguard_some, wantE_some, pickV_bool, nilck_ptr, nilck_elem, aoff_ptr, aoff_elem, aun_not, aun_neg, lenStr_str, lenSl_nils, lenSl_sl, lenSl_osl, aextract_tup, ld1uelem, idxStr_str, amin2uint, amax2uint, rangeStr_str, sliceStr_from, sliceStr_to, List.getElem?_cons_zero, List.getElem?_cons_succ, Option.map_some, Option.bind_some, Int.toNat_natCast, Int.toNat_zero, Int.le_refl, Bool.not_true, Bool.not_false, Bool.not_not, Bool.false_eq_true, if_true, if_false, decide_eq_true_eq, beq_self_eq_true, bool_ft, bool_tf, decide_true, decide_false, reduceCtorEq, cmpNil, cmpRes, boxCells, AV.known, AV.cells, Nat.zero_add, and_self, and_true, true_and, ite_self, forall_const, not_true_eq_false, not_false_eq_true, Option.isSome_some, Option.getD_some, L, e8, ei, conv_fl, acplx_f, ea, buildSl_one 2 (.agg [.str t, .cplx .f64 (fl x) (fl y)]) rfl rfl, sliceSl_from3]
            have hml' := hml
            simp only [List.length_cons] at hml'
            have hln1 := hln ⟨t, x, y⟩
            have hone : (flat ([(⟨t, x, y⟩ : Item)].map encItem)).all AV.one = true := by simp [flat, encItem, AV.cells, AV.one]
            have hxs : IsSl 2 encItem (.sl .full 2 [.agg [.str t, .cplx .f64 (fl x) (fl y)]]) [(⟨t, x, y⟩ : Item)] := .inr ⟨.full, by simp [encItem]⟩
            refine hf.gr.app (xs := [⟨t, x, y⟩]) (by_ := 32) hf.hx hxs (by omega) (by omega) hone fun v' H' hg' hx' hgt hnx => ?_
            have h10 : H'.get (o + 2) = some (.cells (msgCells m iv)) := by rw [hgt]; exact hf.g10
            have hast : ast 1 (.ptr (o + 2) 8) v' H' = some (H'.put (o + 2) (.cells (msgCells { m with items := m.items ++ [⟨t, x, y⟩] } v'))) := ast1uptr h10 hg'.isSl.one (show 8 < 9 by omega)
            simp only [hast, bnd_some]
            refine c_dStep_items hi n r' { m with items := m.items ++ [⟨t, x, y⟩] } v' _ (by simp at hn; omega) ⟨by have := hw.1; simp at this; omega, fun s hs => hw.2 s (List.mem_cons_of_mem _ (List.mem_cons_of_mem _ (List.mem_cons_of_mem _ hs)))⟩ (by simp; omega) (hf.app hgt hnx hx' hg') (fun hh => hno ?_) fun l iv' H2 hl hf2 => ?_
            · have hh' : itemsD (m.kind != 5) r' = none := hh
              rw [ne5] at hh' ⊢
              simp only [itemsD, if_true] at hh'
              simp only [itemsD, if_true, itemsT, ha, hb, Option.bind_some, hh', Option.map_none]
            have hl' : itemsD (m.kind != 5) r' = some l := hl
            rw [ne5] at hl'
            simp only [itemsD, if_true] at hl'
            refine hok (⟨t, x, y⟩ :: l) iv' H2 (by rw [ne5]; simp only [itemsD, if_true, itemsT, ha, hb, Option.bind_some, hl', Option.map_some]) ?_
            simpa using hf2
end
end Go.Va

/-
  Contracts: the document's reading of a line, whole.
-/
set_option linter.unusedVariables false
set_option linter.unusedSimpArgs false
set_option maxRecDepth 100000
namespace Go.Va
theorem ldN9uall {H : AH} {p : Nat} {cs : List AV} (h : H.get p = some (.cells cs)) (hl : cs.length = 9) : ldN 9 (.ptr p 0) H = some (.agg cs) := by rw [← hl]; exact ldN_all h
theorem idx_bytes {fs : Bs} {i : Nat} {c : UInt8} (hx : fs[i]? = some c) : idxA 1 (.sl .stuck 1 (bytesOf fs)) (.int .i64 i) = some (.elem [.int .u8 c.toNat] 0) := by
  have h2 : (0 : Int) ≤ (i : Int) := by omega
  have hgi : (bytesOf fs)[i]? = some (.int .u8 c.toNat) := by simp [bytesOf, hx]
  simp only [idxA, h2, Int.toNat_natCast, hgi, if_true, AV.known, AV.cells]
  rfl
theorem u8ueq (c : UInt8) (n : Nat) (hn : n < 256) : ((c.toNat : Int) == (n : Int)) = decide (c = UInt8.ofNat n) := by
  rw [Bool.eq_iff_iff, beq_iff_eq, decide_eq_true_eq]
  constructor
  · intro h
    have : c.toNat = n := by omega
    rw [← this]; exact (UInt8.ofNat_toNat).symm
  · rintro rfl
    have : (UInt8.ofNat n).toNat = n := by simp; omega
    rw [this]
section
variable {K : AV → AH → Prop} {H0 : AH} {o : Nat}
/-- what a message's words come to -/
def tellD (fs : Bs) (ws : List Bs) (m : Msg) : Option Msg := match fieldsD fs ws m with
  | none => none
  | some (r, m') => if r = [] ∧ checkM m' = true then some m' else none
theorem letterD_small {f : UInt8} {s : Bs} {m m' : Msg} (h : letterD f s m = some m') (hs : s.length ≤ 1000000000) (hm : MsgSmall m) : MsgSmall m' ∧ m'.items = m.items ∧ m'.kind = m.kind := by
  obtain ⟨h1, h2, h3, h4⟩ := hm
  unfold letterD at h
  split at h
  · cases h; exact ⟨⟨hs, h2, h3, h4⟩, rfl, rfl⟩
  split at h
  · cases h; exact ⟨⟨h1, hs, h3, h4⟩, rfl, rfl⟩
  split at h
  · cases h; exact ⟨⟨h1, h2, hs, h4⟩, rfl, rfl⟩
  split at h
  · cases h
  · repeat' split at h
    all_goals cases h; exact ⟨⟨h1, h2, h3, h4⟩, rfl, rfl⟩
theorem itemsT_small : ∀ (n : Nat) (ws : List Bs), ws.length ≤ n → (∀ s ∈ ws, s.length ≤ 1000000000) → ∀ l, itemsT ws = some l → l.length ≤ ws.length ∧ ∀ i ∈ l, ItemSmall i
  | _, [], _, hw, l, h => by simp only [itemsT, Option.some.injEq] at h; subst h; exact ⟨by simp, by simp⟩
  | _, [_], _, hw, l, h => by simp [itemsT] at h
  | _, [_, _], _, hw, l, h => by simp [itemsT] at h
  | 0, t :: a :: b :: r, hn, hw, l, h => by simp at hn
  | n + 1, t :: a :: b :: r, hn, hw, l, h => by
    simp only [itemsT] at h
    cases ha : number a with
    | none => simp [ha] at h
    | some x =>
      cases hb : number b with
      | none => simp [ha, hb] at h
      | some y =>
        simp only [ha, hb, Option.bind_some] at h
        obtain ⟨l', hl', rfl⟩ := Option.map_eq_some_iff.1 h
        obtain ⟨h1, h2⟩ := itemsT_small n r (by simp at hn; omega) (fun s hs => hw s (List.mem_cons_of_mem _ (List.mem_cons_of_mem _ (List.mem_cons_of_mem _ hs)))) l' hl'
        have hx := number_lt ha
        have hy := number_lt hb
        refine ⟨by simp; omega, fun i hi => ?_⟩
        rcases List.mem_cons.1 hi with rfl | hi
        · exact ⟨show x < _ by omega, show y < _ by omega, hw t (List.mem_cons_self ..)⟩
        · exact h2 i hi
theorem itemsD_small {needs : Bool} {ws : List Bs} {l : List Item} (hw : WSmall ws) (h : itemsD needs ws = some l) : l.length ≤ ws.length ∧ ∀ i ∈ l, ItemSmall i := by
  cases needs with
  | true =>
    simp only [itemsD, if_true] at h
    exact itemsT_small _ ws (Nat.le_refl _) hw.2 l h
  | false =>
    simp only [itemsD, Bool.false_eq_true, if_false, Option.some.injEq] at h; subst h
    refine ⟨by simp, fun i hi => ?_⟩
    obtain ⟨t, ht, rfl⟩ := List.mem_map.1 hi
    exact ⟨show 0 < _ by omega, show 0 < _ by omega, hw.2 t ht⟩
theorem c_dStep_fields (fs : Bs) (hfs : fs.length ≤ 5) {g : Grow} (hlet : ∀ f ∈ fs, inLetters f) {ws0 : List Bs} {m0 : Msg} (hok : ∀ m iv H', tellD fs ws0 m0 = some m → Ext H0 H' → IsItems iv m.items → K (.tup [.agg (stepCells { kind := 1, msg := m } iv), .bool true]) H')
    (hno : tellD fs ws0 m0 = none → ∀ H', Ext H0 H' → K (.tup [.agg step0, .bool false]) H') :
    ∀ (r : Bs) (i : Nat) (ws : List Bs) (m : Msg) (iv : AV) (H : AH), fs.drop i = r → i ≤ fs.length → WSmall ws → m.items.length + ws.length ≤ 1000000000 → MsgSmall m → tellD fs ws0 m0 = tellD r ws m → FS H0 o m iv H →
    LoopP (r_hostlerlaw21uStep_p16372 K) [.ptr o 0, .ptr (o + 1) 0, .ptr (o + 2) 0, .sl g 1 (ws.map .str), .sl .stuck 1 (bytesOf fs), .int .i64 fs.length, .int .i64 i] H
  | [], i, ws, m, iv, H, hr, hil, hw, hml, hms, htl, hf => by
    refine .fold ?_
    have hi : fs.length ≤ i := by simpa using hr
    have hlt : ¬ ((i : Int) < (fs.length : Int)) := by omega
    simp only [tellD, fieldsD] at htl
    simp only [r_hostlerlaw21uStep_p16372, abin_i_add, abin_i_sub, abin_i_mul, abin_i_eql, abin_i_neq, abin_i_lss, abin_i_leq, abin_i_gtr, abin_i_geq, abin_s_eql, abin_s_neq, bnd_some, bnd_none, branch_bool, gwant_bool, gwant_nothing, aguard_some, wantE_some, pickV_bool, nilck_ptr, nilck_elem, aoff_ptr, aoff_elem, aun_not, aun_neg, lenStr_str, lenSl_nils, lenSl_sl, lenSl_osl, aextract_tup, ld1uelem, idxStr_str, amin2uint, amax2uint, rangeStr_str, sliceStr_from, sliceStr_to, List.getElem?_cons_zero, List.getElem?_cons_succ, Option.map_some, Option.bind_some, Int.toNat_natCast, Int.toNat_zero, Int.le_refl, Bool.not_true, Bool.not_false, Bool.not_not, Bool.false_eq_true, if_true, if_false, decide_eq_true_eq, beq_self_eq_true, bool_ft, bool_tf, decide_true, decide_false, reduceCtorEq, cmpNil, cmpRes, boxCells, AV.known, AV.cells, Nat.zero_add, and_self, and_true, true_and, ite_self, forall_const, not_true_eq_false, not_false_eq_true, hlt, List.length_map]
    cases ws with
    | cons a b =>
      have hp : (((a :: b).length : Nat) : Int) > 0 := by simp only [List.length_cons]; omega
      simp only [abin_i_add, abin_i_sub, abin_i_mul, abin_i_eql, abin_i_neq, abin_i_lss, abin_i_leq, abin_i_gtr, abin_i_geq, abin_s_eql, abin_s_neq, bnd_some, bnd_none, branch_bool, gwant_bool, gwant_nothing, aguard_some, wantE_some, pickV_bool, nilck_ptr, nilck_elem, aoff_ptr, aoff_elem, aun_not, aun_neg, lenStr_str, lenSl_nils, lenSl_sl, lenSl_osl, aextract_tup, ld1uelem, idxStr_str, amin2uint, amax2uint, rangeStr_str, sliceStr_from, sliceStr_to, List.getElem?_cons_zero, List.getElem?_cons_succ, Option.map_some, Option.bind_some, Int.toNat_natCast, Int.toNat_zero, Int.le_refl, Bool.not_true, Bool.not_false, Bool.not_not, Bool.false_eq_true, if_true, if_false, decide_eq_true_eq, beq_self_eq_true, bool_ft, bool_tf, decide_true, decide_false, reduceCtorEq, cmpNil, cmpRes, boxCells, AV.known, AV.cells, Nat.zero_add, and_self, and_true, true_and, ite_self, forall_const, not_true_eq_false, not_false_eq_true, hp]
      exact hf.fn.fail (hno (by simp only [tellD]; rw [htl]; simp))
    | nil =>
      have hp : ¬ ((([] : List Bs).length : Int) > 0) := by decide
      simp only [abin_i_add, abin_i_sub, abin_i_mul, abin_i_eql, abin_i_neq, abin_i_lss, abin_i_leq, abin_i_gtr, abin_i_geq, abin_s_eql, abin_s_neq, bnd_some, bnd_none, branch_bool, gwant_bool, gwant_nothing, aguard_some, wantE_some, pickV_bool, nilck_ptr, nilck_elem, aoff_ptr, aoff_elem, aun_not, aun_neg, lenStr_str, lenSl_nils, lenSl_sl, lenSl_osl, aextract_tup, ld1uelem, idxStr_str, amin2uint, amax2uint, rangeStr_str, sliceStr_from, sliceStr_to, List.getElem?_cons_zero, List.getElem?_cons_succ, Option.map_some, Option.bind_some, Int.toNat_natCast, Int.toNat_zero, Int.le_refl, Bool.not_true, Bool.not_false, Bool.not_not, Bool.false_eq_true, if_true, if_false, decide_eq_true_eq, beq_self_eq_true, bool_ft, bool_tf, decide_true, decide_false, reduceCtorEq, cmpNil, cmpRes, boxCells, AV.known, AV.cells, Nat.zero_add, and_self, and_true, true_and, ite_self, forall_const, not_true_eq_false, not_false_eq_true, hp, ldN9uall hf.g10 rfl]
      refine c_ref_Check m hms hf.gr.isSl fun H1 hx1 => ?_
      have hf1 := hf.ext hx1
      cases hc : checkM m with
      | false =>
        simp only [abin_i_add, abin_i_sub, abin_i_mul, abin_i_eql, abin_i_neq, abin_i_lss, abin_i_leq, abin_i_gtr, abin_i_geq, abin_s_eql, abin_s_neq, bnd_some, bnd_none, branch_bool, gwant_bool, gwant_nothing, aguard_some, wantE_some, pickV_bool, nilck_ptr, nilck_elem, aoff_ptr, aoff_elem, aun_not, aun_neg, lenStr_str, lenSl_nils, lenSl_sl, lenSl_osl, aextract_tup, ld1uelem, idxStr_str, amin2uint, amax2uint, rangeStr_str, sliceStr_from, sliceStr_to, List.getElem?_cons_zero, List.getElem?_cons_succ, Option.map_some, Option.bind_some, Int.toNat_natCast, Int.toNat_zero, Int.le_refl, Bool.not_true, Bool.not_false, Bool.not_not, Bool.false_eq_true, if_true, if_false, decide_eq_true_eq, beq_self_eq_true, bool_ft, bool_tf, decide_true, decide_false, reduceCtorEq, cmpNil, cmpRes, boxCells, AV.known, AV.cells, Nat.zero_add, and_self, and_true, true_and, ite_self, forall_const, not_true_eq_false, not_false_eq_true]
        exact hf1.fn.fail (hno (by simp only [tellD]; rw [htl, hc]; simp))
      | true =>
        have ea : astruct [(0, 1), (1, 9), (10, 1), (11, 1)] step0 [(0, .int .i64 1), (1, .agg (msgCells m iv))] = some (.agg (stepCells { kind := 1, msg := m } iv)) := rfl
        have e00 : [AV.int .i64 0, .int .i64 0, .str [], .str [], .str [], .int .i64 0, .int .i64 0, .int .i64 0, .int .i64 0, .nils, .int .i64 0, .int .i64 0] = step0 := rfl
        simp only [abin_i_add, abin_i_sub, abin_i_mul, abin_i_eql, abin_i_neq, abin_i_lss, abin_i_leq, abin_i_gtr, abin_i_geq, abin_s_eql, abin_s_neq, bnd_some, bnd_none, branch_bool, gwant_bool, gwant_nothing, aguard_some, wantE_some, pickV_bool, nilck_ptr, nilck_elem, aoff_ptr, aoff_elem, aun_not, aun_neg, lenStr_str, lenSl_nils, lenSl_sl, lenSl_osl, aextract_tup, ld1uelem, idxStr_str, amin2uint, amax2uint, rangeStr_str, sliceStr_from, sliceStr_to, List.getElem?_cons_zero, List.getElem?_cons_succ, Option.map_some, Option.bind_some, Int.toNat_natCast, Int.toNat_zero, Int.le_refl, Bool.not_true, Bool.not_false, Bool.not_not, Bool.false_eq_true, if_true, if_false, decide_eq_true_eq, beq_self_eq_true, bool_ft, bool_tf, decide_true, decide_false, reduceCtorEq, cmpNil, cmpRes, boxCells, AV.known, AV.cells, Nat.zero_add, and_self, and_true, true_and, ite_self, forall_const, not_true_eq_false, not_false_eq_true, ldN9uall hf1.g10 rfl, e00, ea]
        exact hf1.fn.out rfl (stepCells_one _ hf1.gr.isSl.one) fun H' hx' => hok m iv H' (by simp only [tellD]; rw [htl, hc]; simp) hx' hf1.gr.isSl
  | f :: r, i, ws, m, iv, H, hr, hil, hw, hml, hms, htl, hf => by
    refine .fold ?_
    obtain ⟨hx, hlt, hr', ht⟩ := drop_at hr
    have h1 : ((i : Int) < (fs.length : Int)) := by omega
    have hlf := hlet f (List.mem_of_getElem? hx)
    have isx := i_succ (show i < 9223372036854775807 by omega)
    have u := fun (n : Nat) (hn : n < 256) => u8ueq f n hn
    have u73 : ((f.toNat : Int) == 73) = decide (f = 73) := u 73 (by omega)
    have u70 : ((f.toNat : Int) == 70) = decide (f = 70) := u 70 (by omega)
    have u69 : ((f.toNat : Int) == 69) = decide (f = 69) := u 69 (by omega)
    have u84 : ((f.toNat : Int) == 84) = decide (f = 84) := u 84 (by omega)
    have u78 : ((f.toNat : Int) == 78) = decide (f = 78) := u 78 (by omega)
    have u83 : ((f.toNat : Int) == 83) = decide (f = 83) := u 83 (by omega)
    have u85 : ((f.toNat : Int) == 85) = decide (f = 85) := u 85 (by omega)
    simp only [tellD, fieldsD] at htl
    simp only [r_hostlerlaw21uStep_p16372, abin_i_add, abin_i_sub, abin_i_mul, abin_i_eql, abin_i_neq, abin_i_lss, abin_i_leq, abin_i_gtr, abin_i_geq, abin_s_eql, abin_s_neq, bnd_some, bnd_none, branch_bool, gwant_bool, gwant_nothing, aguard_some, wantE_some, pickV_bool, nilck_ptr, nilck_elem, aoff_ptr, aoff_elem, aun_not, aun_neg, lenStr_str, lenSl_nils, lenSl_sl, lenSl_osl, aextract_tup, ld1uelem, idxStr_str, amin2uint, amax2uint, rangeStr_str, sliceStr_from, sliceStr_to, List.getElem?_cons_zero, List.getElem?_cons_succ, Option.map_some, Option.bind_some, Int.toNat_natCast, Int.toNat_zero, Int.le_refl, Bool.not_true, Bool.not_false, Bool.not_not, Bool.false_eq_true, if_true, if_false, decide_eq_true_eq, beq_self_eq_true, bool_ft, bool_tf, decide_true, decide_false, reduceCtorEq, cmpNil, cmpRes, boxCells, AV.known, AV.cells, Nat.zero_add, and_self, and_true, true_and, ite_self, forall_const, not_true_eq_false, not_false_eq_true, h1, idx_bytes hx, u73]
    by_cases h73 : f = 73
    · subst h73
      simp only [if_true] at htl
      simp only [abin_i_add, abin_i_sub, abin_i_mul, abin_i_eql, abin_i_neq, abin_i_lss, abin_i_leq, abin_i_gtr, abin_i_geq, abin_s_eql, abin_s_neq, bnd_some, bnd_none, branch_bool, gwant_bool, gwant_nothing, aguard_some, wantE_some, pickV_bool, nilck_ptr, nilck_elem, aoff_ptr, aoff_elem, aun_not, aun_neg, lenStr_str, lenSl_nils, lenSl_sl, lenSl_osl, aextract_tup, ld1uelem, idxStr_str, amin2uint, amax2uint, rangeStr_str, sliceStr_from, sliceStr_to, List.getElem?_cons_zero, List.getElem?_cons_succ, Option.map_some, Option.bind_some, Int.toNat_natCast, Int.toNat_zero, Int.le_refl, Bool.not_true, Bool.not_false, Bool.not_not, Bool.false_eq_true, if_true, if_false, decide_eq_true_eq, beq_self_eq_true, bool_ft, bool_tf, decide_true, decide_false, reduceCtorEq, cmpNil, cmpRes, boxCells, AV.known, AV.cells, Nat.zero_add, and_self, and_true, true_and, ite_self, forall_const, not_true_eq_false, not_false_eq_true]
      cases hid : itemsD (m.kind != 5) ws with
      | none =>
        rw [hid] at htl
        simp only at htl
        exact c_dStep_items (by omega) ws.length ws m iv H (Nat.le_refl _) hw hml hf (fun _ => hno (by simp only [tellD]; rw [htl])) fun l iv' H' hl _ => by rw [hid] at hl; cases hl
      | some l0 =>
        rw [hid] at htl
        simp only at htl
        obtain ⟨hsl, hsi⟩ := itemsD_small hw hid
        refine c_dStep_items (by omega) ws.length ws m iv H (Nat.le_refl _) hw hml hf (fun hh => by rw [hid] at hh; cases hh) fun l iv' H' hl hf' => ?_
        rw [hid] at hl; cases hl
        refine c_dStep_fields fs hfs hlet (ws0 := ws0) (m0 := m0) hok hno r (i + 1) [] _ iv' H' hr' (by omega) ⟨by simp, by simp⟩ (by simp; omega) ?_ (by simp only [tellD]; exact htl) hf'
        obtain ⟨a1, a2, a3, a4, a5⟩ := hms
        exact ⟨a1, a2, a3, by simp; omega, fun j hj => by
          rcases List.mem_append.1 hj with hj | hj
          · exact a5 j hj
          · exact hsi j hj⟩
    · simp only [h73, if_false] at htl
      simp only [abin_i_add, abin_i_sub, abin_i_mul, abin_i_eql, abin_i_neq, abin_i_lss, abin_i_leq, abin_i_gtr, abin_i_geq, abin_s_eql, abin_s_neq, bnd_some, bnd_none, branch_bool, gwant_bool, gwant_nothing, aguard_some, wantE_some, pickV_bool, nilck_ptr, nilck_elem, aoff_ptr, aoff_elem, aun_not, aun_neg, lenStr_str, lenSl_nils, lenSl_sl, lenSl_osl, aextract_tup, ld1uelem, idxStr_str, amin2uint, amax2uint, rangeStr_str, sliceStr_from, sliceStr_to, List.getElem?_cons_zero, List.getElem?_cons_succ, Option.map_some, Option.bind_some, Int.toNat_natCast, Int.toNat_zero, Int.le_refl, Bool.not_true, Bool.not_false, Bool.not_not, Bool.false_eq_true, if_true, if_false, decide_eq_true_eq, beq_self_eq_true, bool_ft, bool_tf, decide_true, decide_false, reduceCtorEq, cmpNil, cmpRes, boxCells, AV.known, AV.cells, Nat.zero_add, and_self, and_true, true_and, ite_self, forall_const, not_true_eq_false, not_false_eq_true, h73]
      cases ws with
      | nil =>
        simp only at htl
        simp only [abin_i_add, abin_i_sub, abin_i_mul, abin_i_eql, abin_i_neq, abin_i_lss, abin_i_leq, abin_i_gtr, abin_i_geq, abin_s_eql, abin_s_neq, bnd_some, bnd_none, branch_bool, gwant_bool, gwant_nothing, aguard_some, wantE_some, pickV_bool, nilck_ptr, nilck_elem, aoff_ptr, aoff_elem, aun_not, aun_neg, lenStr_str, lenSl_nils, lenSl_sl, lenSl_osl, aextract_tup, ld1uelem, idxStr_str, amin2uint, amax2uint, rangeStr_str, sliceStr_from, sliceStr_to, List.getElem?_cons_zero, List.getElem?_cons_succ, Option.map_some, Option.bind_some, Int.toNat_natCast, Int.toNat_zero, Int.le_refl, Bool.not_true, Bool.not_false, Bool.not_not, Bool.false_eq_true, if_true, if_false, decide_eq_true_eq, beq_self_eq_true, bool_ft, bool_tf, decide_true, decide_false, reduceCtorEq, cmpNil, cmpRes, boxCells, AV.known, AV.cells, Nat.zero_add, and_self, and_true, true_and, ite_self, forall_const, not_true_eq_false, not_false_eq_true, List.map_nil, List.length_nil, show ((((0 : Nat) : Int)) == 0) = true from rfl]
        exact hf.fn.fail (hno (by simp only [tellD]; rw [htl]))
      | cons s ws =>
        simp only at htl
        have hs := hw.2 s (List.mem_cons_self ..)
        have hw' : WSmall ws := ⟨by have := hw.1; simp at this; omega, fun x hx => hw.2 x (List.mem_cons_of_mem _ hx)⟩
        have hle : (((AV.str s :: ws.map .str).length : Int) == 0) = false := by simp only [List.length_cons, beq_eq_false_iff_ne]; omega
        have ei : idxA 1 (.sl g 1 (AV.str s :: ws.map .str)) (.int .i64 0) = some (.elem [.str s] 0) := by simp [idxA, AV.known, AV.cells]
        simp only [abin_i_add, abin_i_sub, abin_i_mul, abin_i_eql, abin_i_neq, abin_i_lss, abin_i_leq, abin_i_gtr, abin_i_geq, abin_s_eql, abin_s_neq, bnd_some, bnd_none, branch_bool, gwant_bool, gwant_nothing, aguard_some, wantE_some, pickV_bool, nilck_ptr, nilck_elem, aoff_ptr, aoff_elem, aun_not, aun_neg, lenStr_str, lenSl_nils, lenSl_sl, lenSl_osl, aextract_tup, ld1uelem, idxStr_str, amin2uint, amax2uint, rangeStr_str, sliceStr_from, sliceStr_to, List.getElem?_cons_zero, List.getElem?_cons_succ, Option.map_some, Option.bind_some, Int.toNat_natCast, Int.toNat_zero, Int.le_refl, Bool.not_true, Bool.not_false, Bool.not_not, Bool.false_eq_true, if_true, if_false, decide_eq_true_eq, beq_self_eq_true, bool_ft, bool_tf, decide_true, decide_false, reduceCtorEq, cmpNil, cmpRes, boxCells, AV.known, AV.cells, Nat.zero_add, and_self, and_true, true_and, ite_self, forall_const, not_true_eq_false, not_false_eq_true, List.map_cons, hle, ei, sliceSl_from1, u70, u69, u84]
        have hml2 : ∀ m' : Msg, m'.items = m.items → m'.items.length + ws.length ≤ 1000000000 := fun m' h => by rw [h]; simp at hml; omega
        have st : ∀ (k : Nat) (v : AV), v.one = true → k < 9 → ast 1 (.ptr (o + 2) k) v H = some (H.put (o + 2) (.cells ((msgCells m iv).set k v))) := fun k v h1 h2 => ast1uptr hf.g10 h1 h2
        have go : ∀ (m' : Msg) (H1 : AH), letterD f s m = some m' → FS H0 o m iv H1 → LoopP (r_hostlerlaw21uStep_p16372 K) [.ptr o 0, .ptr (o + 1) 0, .ptr (o + 2) 0, .sl g 1 (ws.map .str), .sl .stuck 1 (bytesOf fs), .int .i64 fs.length, .int .i64 ((i + 1 : Nat) : Int)] (H1.put (o + 2) (.cells (msgCells m' iv))) := fun m' H1 hl hf1 => by
          obtain ⟨b1, b2, b3⟩ := letterD_small hl hs hms
          rw [hl] at htl
          simp only at htl
          exact c_dStep_fields fs hfs hlet (ws0 := ws0) (m0 := m0) hok hno r (i + 1) ws m' iv _ hr' (by omega) hw' (hml2 m' b2) b1 (by simp only [tellD]; exact htl) (hf1.put (by rw [b2]; exact hf1.gr))
        by_cases h70 : f = 70
        · subst h70
          simp only [abin_i_add, abin_i_sub, abin_i_mul, abin_i_eql, abin_i_neq, abin_i_lss, abin_i_leq, abin_i_gtr, abin_i_geq, abin_s_eql, abin_s_neq, bnd_some, bnd_none, branch_bool, gwant_bool, gwant_nothing, aguard_some, wantE_some, pickV_bool, nilck_ptr, nilck_elem, aoff_ptr, aoff_elem, aun_not, aun_neg, lenStr_str, lenSl_nils, lenSl_sl, lenSl_osl, aextract_tup, ld1uelem, idxStr_str, amin2uint, amax2uint, rangeStr_str, sliceStr_from, sliceStr_to, List.getElem?_cons_zero, List.getElem?_cons_succ, Option.map_some, Option.bind_some, Int.toNat_natCast, Int.toNat_zero, Int.le_refl, Bool.not_true, Bool.not_false, Bool.not_not, Bool.false_eq_true, if_true, if_false, decide_eq_true_eq, beq_self_eq_true, bool_ft, bool_tf, decide_true, decide_false, reduceCtorEq, cmpNil, cmpRes, boxCells, AV.known, AV.cells, Nat.zero_add, and_self, and_true, true_and, ite_self, forall_const, not_true_eq_false, not_false_eq_true, st 1 (.str s) rfl (by omega), r_hostlerlaw21uStep_p130983, isx]
          exact go { m with f := s } H rfl hf
        simp only [abin_i_add, abin_i_sub, abin_i_mul, abin_i_eql, abin_i_neq, abin_i_lss, abin_i_leq, abin_i_gtr, abin_i_geq, abin_s_eql, abin_s_neq, bnd_some, bnd_none, branch_bool, gwant_bool, gwant_nothing, aguard_some, wantE_some, pickV_bool, nilck_ptr, nilck_elem, aoff_ptr, aoff_elem, aun_not, aun_neg, lenStr_str, lenSl_nils, lenSl_sl, lenSl_osl, aextract_tup, ld1uelem, idxStr_str, amin2uint, amax2uint, rangeStr_str, sliceStr_from, sliceStr_to, List.getElem?_cons_zero, List.getElem?_cons_succ, Option.map_some, Option.bind_some, Int.toNat_natCast, Int.toNat_zero, Int.le_refl, Bool.not_true, Bool.not_false, Bool.not_not, Bool.false_eq_true, if_true, if_false, decide_eq_true_eq, beq_self_eq_true, bool_ft, bool_tf, decide_true, decide_false, reduceCtorEq, cmpNil, cmpRes, boxCells, AV.known, AV.cells, Nat.zero_add, and_self, and_true, true_and, ite_self, forall_const, not_true_eq_false, not_false_eq_true, h70]
        by_cases h69 : f = 69
        · subst h69
          simp only [abin_i_add, abin_i_sub, abin_i_mul, abin_i_eql, abin_i_neq, abin_i_lss, abin_i_leq, abin_i_gtr, abin_i_geq, abin_s_eql, abin_s_neq, bnd_some, bnd_none, branch_bool, gwant_bool, gwant_nothing, aguard_some, wantE_some, pickV_bool, nilck_ptr, nilck_elem, aoff_ptr, aoff_elem, aun_not, aun_neg, lenStr_str, lenSl_nils, lenSl_sl, lenSl_osl, aextract_tup, ld1uelem, idxStr_str, amin2uint, amax2uint, rangeStr_str, sliceStr_from, sliceStr_to, List.getElem?_cons_zero, List.getElem?_cons_succ, Option.map_some, Option.bind_some, Int.toNat_natCast, Int.toNat_zero, Int.le_refl, Bool.not_true, Bool.not_false, Bool.not_not, Bool.false_eq_true, if_true, if_false, decide_eq_true_eq, beq_self_eq_true, bool_ft, bool_tf, decide_true, decide_false, reduceCtorEq, cmpNil, cmpRes, boxCells, AV.known, AV.cells, Nat.zero_add, and_self, and_true, true_and, ite_self, forall_const, not_true_eq_false, not_false_eq_true, st 2 (.str s) rfl (by omega), r_hostlerlaw21uStep_p130983, isx]
          exact go { m with e := s } H rfl hf
        simp only [abin_i_add, abin_i_sub, abin_i_mul, abin_i_eql, abin_i_neq, abin_i_lss, abin_i_leq, abin_i_gtr, abin_i_geq, abin_s_eql, abin_s_neq, bnd_some, bnd_none, branch_bool, gwant_bool, gwant_nothing, aguard_some, wantE_some, pickV_bool, nilck_ptr, nilck_elem, aoff_ptr, aoff_elem, aun_not, aun_neg, lenStr_str, lenSl_nils, lenSl_sl, lenSl_osl, aextract_tup, ld1uelem, idxStr_str, amin2uint, amax2uint, rangeStr_str, sliceStr_from, sliceStr_to, List.getElem?_cons_zero, List.getElem?_cons_succ, Option.map_some, Option.bind_some, Int.toNat_natCast, Int.toNat_zero, Int.le_refl, Bool.not_true, Bool.not_false, Bool.not_not, Bool.false_eq_true, if_true, if_false, decide_eq_true_eq, beq_self_eq_true, bool_ft, bool_tf, decide_true, decide_false, reduceCtorEq, cmpNil, cmpRes, boxCells, AV.known, AV.cells, Nat.zero_add, and_self, and_true, true_and, ite_self, forall_const, not_true_eq_false, not_false_eq_true, h69]
        by_cases h84 : f = 84
        · subst h84
          simp only [abin_i_add, abin_i_sub, abin_i_mul, abin_i_eql, abin_i_neq, abin_i_lss, abin_i_leq, abin_i_gtr, abin_i_geq, abin_s_eql, abin_s_neq, bnd_some, bnd_none, branch_bool, gwant_bool, gwant_nothing, aguard_some, wantE_some, pickV_bool, nilck_ptr, nilck_elem, aoff_ptr, aoff_elem, aun_not, aun_neg, lenStr_str, lenSl_nils, lenSl_sl, lenSl_osl, aextract_tup, ld1uelem, idxStr_str, amin2uint, amax2uint, rangeStr_str, sliceStr_from, sliceStr_to, List.getElem?_cons_zero, List.getElem?_cons_succ, Option.map_some, Option.bind_some, Int.toNat_natCast, Int.toNat_zero, Int.le_refl, Bool.not_true, Bool.not_false, Bool.not_not, Bool.false_eq_true, if_true, if_false, decide_eq_true_eq, beq_self_eq_true, bool_ft, bool_tf, decide_true, decide_false, reduceCtorEq, cmpNil, cmpRes, boxCells, AV.known, AV.cells, Nat.zero_add, and_self, and_true, true_and, ite_self, forall_const, not_true_eq_false, not_false_eq_true, st 3 (.str s) rfl (by omega), r_hostlerlaw21uStep_p130983, isx]
          exact go { m with t := s } H rfl hf
        simp only [abin_i_add, abin_i_sub, abin_i_mul, abin_i_eql, abin_i_neq, abin_i_lss, abin_i_leq, abin_i_gtr, abin_i_geq, abin_s_eql, abin_s_neq, bnd_some, bnd_none, branch_bool, gwant_bool, gwant_nothing, aguard_some, wantE_some, pickV_bool, nilck_ptr, nilck_elem, aoff_ptr, aoff_elem, aun_not, aun_neg, lenStr_str, lenSl_nils, lenSl_sl, lenSl_osl, aextract_tup, ld1uelem, idxStr_str, amin2uint, amax2uint, rangeStr_str, sliceStr_from, sliceStr_to, List.getElem?_cons_zero, List.getElem?_cons_succ, Option.map_some, Option.bind_some, Int.toNat_natCast, Int.toNat_zero, Int.le_refl, Bool.not_true, Bool.not_false, Bool.not_not, Bool.false_eq_true, if_true, if_false, decide_eq_true_eq, beq_self_eq_true, bool_ft, bool_tf, decide_true, decide_false, reduceCtorEq, cmpNil, cmpRes, boxCells, AV.known, AV.cells, Nat.zero_add, and_self, and_true, true_and, ite_self, forall_const, not_true_eq_false, not_false_eq_true, h84]
        refine c_dNumber s ?_
        cases hn : number s with
        | none =>
          simp only [abin_i_add, abin_i_sub, abin_i_mul, abin_i_eql, abin_i_neq, abin_i_lss, abin_i_leq, abin_i_gtr, abin_i_geq, abin_s_eql, abin_s_neq, bnd_some, bnd_none, branch_bool, gwant_bool, gwant_nothing, aguard_some, wantE_some, pickV_bool, nilck_ptr, nilck_elem, aoff_ptr, aoff_elem, aun_not, aun_neg, lenStr_str, lenSl_nils, lenSl_sl, lenSl_osl, aextract_tup, ld1uelem, idxStr_str, amin2uint, amax2uint, rangeStr_str, sliceStr_from, sliceStr_to, List.getElem?_cons_zero, List.getElem?_cons_succ, Option.map_some, Option.bind_some, Int.toNat_natCast, Int.toNat_zero, Int.le_refl, Bool.not_true, Bool.not_false, Bool.not_not, Bool.false_eq_true, if_true, if_false, decide_eq_true_eq, beq_self_eq_true, bool_ft, bool_tf, decide_true, decide_false, reduceCtorEq, cmpNil, cmpRes, boxCells, AV.known, AV.cells, Nat.zero_add, and_self, and_true, true_and, ite_self, forall_const, not_true_eq_false, not_false_eq_true, Option.isSome_none]
          refine hf.fn.fail (hno ?_)
          have : letterD f s m = none := by simp only [letterD, h70, h69, h84, if_false, hn]
          rw [this] at htl
          simp only [tellD]; rw [htl]
        | some x =>
          simp only [abin_i_add, abin_i_sub, abin_i_mul, abin_i_eql, abin_i_neq, abin_i_lss, abin_i_leq, abin_i_gtr, abin_i_geq, abin_s_eql, abin_s_neq, bnd_some, bnd_none, branch_bool, gwant_bool, gwant_nothing, aguard_some, wantE_some, pickV_bool, nilck_ptr, nilck_elem, aoff_ptr, aoff_elem, aun_not, aun_neg, lenStr_str, lenSl_nils, lenSl_sl, lenSl_osl, aextract_tup, ld1uelem, idxStr_str, amin2uint, amax2uint, rangeStr_str, sliceStr_from, sliceStr_to, List.getElem?_cons_zero, List.getElem?_cons_succ, Option.map_some, Option.bind_some, Int.toNat_natCast, Int.toNat_zero, Int.le_refl, Bool.not_true, Bool.not_false, Bool.not_not, Bool.false_eq_true, if_true, if_false, decide_eq_true_eq, beq_self_eq_true, bool_ft, bool_tf, decide_true, decide_false, reduceCtorEq, cmpNil, cmpRes, boxCells, AV.known, AV.cells, Nat.zero_add, and_self, and_true, true_and, ite_self, forall_const, not_true_eq_false, not_false_eq_true, Option.isSome_some, Option.getD_some, u78, u83, u85]
          have hl : letterD f s m = some (if f = 78 then { m with n := x } else if f = 83 then { m with state := x } else if f = 85 then { m with num := x } else { m with epoch := x }) := by
            simp only [letterD, h70, h69, h84, if_false, hn]
            repeat' split
            all_goals rfl
          by_cases h78 : f = 78
          · subst h78
            simp only [abin_i_add, abin_i_sub, abin_i_mul, abin_i_eql, abin_i_neq, abin_i_lss, abin_i_leq, abin_i_gtr, abin_i_geq, abin_s_eql, abin_s_neq, bnd_some, bnd_none, branch_bool, gwant_bool, gwant_nothing, aguard_some, wantE_some, pickV_bool, nilck_ptr, nilck_elem, aoff_ptr, aoff_elem, aun_not, aun_neg, lenStr_str, lenSl_nils, lenSl_sl, lenSl_osl, aextract_tup, ld1uelem, idxStr_str, amin2uint, amax2uint, rangeStr_str, sliceStr_from, sliceStr_to, List.getElem?_cons_zero, List.getElem?_cons_succ, Option.map_some, Option.bind_some, Int.toNat_natCast, Int.toNat_zero, Int.le_refl, Bool.not_true, Bool.not_false, Bool.not_not, Bool.false_eq_true, if_true, if_false, decide_eq_true_eq, beq_self_eq_true, bool_ft, bool_tf, decide_true, decide_false, reduceCtorEq, cmpNil, cmpRes, boxCells, AV.known, AV.cells, Nat.zero_add, and_self, and_true, true_and, ite_self, forall_const, not_true_eq_false, not_false_eq_true, st 4 (.int .i64 x) rfl (by omega), r_hostlerlaw21uStep_p130983, isx]
            exact go { m with n := x } H (by rw [hl]; rfl) hf
          simp only [abin_i_add, abin_i_sub, abin_i_mul, abin_i_eql, abin_i_neq, abin_i_lss, abin_i_leq, abin_i_gtr, abin_i_geq, abin_s_eql, abin_s_neq, bnd_some, bnd_none, branch_bool, gwant_bool, gwant_nothing, aguard_some, wantE_some, pickV_bool, nilck_ptr, nilck_elem, aoff_ptr, aoff_elem, aun_not, aun_neg, lenStr_str, lenSl_nils, lenSl_sl, lenSl_osl, aextract_tup, ld1uelem, idxStr_str, amin2uint, amax2uint, rangeStr_str, sliceStr_from, sliceStr_to, List.getElem?_cons_zero, List.getElem?_cons_succ, Option.map_some, Option.bind_some, Int.toNat_natCast, Int.toNat_zero, Int.le_refl, Bool.not_true, Bool.not_false, Bool.not_not, Bool.false_eq_true, if_true, if_false, decide_eq_true_eq, beq_self_eq_true, bool_ft, bool_tf, decide_true, decide_false, reduceCtorEq, cmpNil, cmpRes, boxCells, AV.known, AV.cells, Nat.zero_add, and_self, and_true, true_and, ite_self, forall_const, not_true_eq_false, not_false_eq_true, h78]
          by_cases h83 : f = 83
          · subst h83
            simp only [abin_i_add, abin_i_sub, abin_i_mul, abin_i_eql, abin_i_neq, abin_i_lss, abin_i_leq, abin_i_gtr, abin_i_geq, abin_s_eql, abin_s_neq, bnd_some, bnd_none, branch_bool, gwant_bool, gwant_nothing, aguard_some, wantE_some, pickV_bool, nilck_ptr, nilck_elem, aoff_ptr, aoff_elem, aun_not, aun_neg, lenStr_str, lenSl_nils, lenSl_sl, lenSl_osl, aextract_tup, ld1uelem, idxStr_str, amin2uint, amax2uint, rangeStr_str, sliceStr_from, sliceStr_to, List.getElem?_cons_zero, List.getElem?_cons_succ, Option.map_some, Option.bind_some, Int.toNat_natCast, Int.toNat_zero, Int.le_refl, Bool.not_true, Bool.not_false, Bool.not_not, Bool.false_eq_true, if_true, if_false, decide_eq_true_eq, beq_self_eq_true, bool_ft, bool_tf, decide_true, decide_false, reduceCtorEq, cmpNil, cmpRes, boxCells, AV.known, AV.cells, Nat.zero_add, and_self, and_true, true_and, ite_self, forall_const, not_true_eq_false, not_false_eq_true, st 5 (.int .i64 x) rfl (by omega), r_hostlerlaw21uStep_p130983, isx]
            exact go { m with state := x } H (by rw [hl]; rfl) hf
          simp only [abin_i_add, abin_i_sub, abin_i_mul, abin_i_eql, abin_i_neq, abin_i_lss, abin_i_leq, abin_i_gtr, abin_i_geq, abin_s_eql, abin_s_neq, bnd_some, bnd_none, branch_bool, gwant_bool, gwant_nothing, aguard_some, wantE_some, pickV_bool, nilck_ptr, nilck_elem, aoff_ptr, aoff_elem, aun_not, aun_neg, lenStr_str, lenSl_nils, lenSl_sl, lenSl_osl, aextract_tup, ld1uelem, idxStr_str, amin2uint, amax2uint, rangeStr_str, sliceStr_from, sliceStr_to, List.getElem?_cons_zero, List.getElem?_cons_succ, Option.map_some, Option.bind_some, Int.toNat_natCast, Int.toNat_zero, Int.le_refl, Bool.not_true, Bool.not_false, Bool.not_not, Bool.false_eq_true, if_true, if_false, decide_eq_true_eq, beq_self_eq_true, bool_ft, bool_tf, decide_true, decide_false, reduceCtorEq, cmpNil, cmpRes, boxCells, AV.known, AV.cells, Nat.zero_add, and_self, and_true, true_and, ite_self, forall_const, not_true_eq_false, not_false_eq_true, h83]
          by_cases h85 : f = 85
          · subst h85
            simp only [abin_i_add, abin_i_sub, abin_i_mul, abin_i_eql, abin_i_neq, abin_i_lss, abin_i_leq, abin_i_gtr, abin_i_geq, abin_s_eql, abin_s_neq, bnd_some, bnd_none, branch_bool, gwant_bool, gwant_nothing, aguard_some, wantE_some, pickV_bool, nilck_ptr, nilck_elem, aoff_ptr, aoff_elem, aun_not, aun_neg, lenStr_str, lenSl_nils, lenSl_sl, lenSl_osl, aextract_tup, ld1uelem, idxStr_str, amin2uint, amax2uint, rangeStr_str, sliceStr_from, sliceStr_to, List.getElem?_cons_zero, List.getElem?_cons_succ, Option.map_some, Option.bind_some, Int.toNat_natCast, Int.toNat_zero, Int.le_refl, Bool.not_true, Bool.not_false, Bool.not_not, Bool.false_eq_true, if_true, if_false, decide_eq_true_eq, beq_self_eq_true, bool_ft, bool_tf, decide_true, decide_false, reduceCtorEq, cmpNil, cmpRes, boxCells, AV.known, AV.cells, Nat.zero_add, and_self, and_true, true_and, ite_self, forall_const, not_true_eq_false, not_false_eq_true, st 6 (.int .i64 x) rfl (by omega), r_hostlerlaw21uStep_p130983, isx]
            exact go { m with num := x } H (by rw [hl]; rfl) hf
          simp only [abin_i_add, abin_i_sub, abin_i_mul, abin_i_eql, abin_i_neq, abin_i_lss, abin_i_leq, abin_i_gtr, abin_i_geq, abin_s_eql, abin_s_neq, bnd_some, bnd_none, branch_bool, gwant_bool, gwant_nothing, aguard_some, wantE_some, pickV_bool, nilck_ptr, nilck_elem, aoff_ptr, aoff_elem, aun_not, aun_neg, lenStr_str, lenSl_nils, lenSl_sl, lenSl_osl, aextract_tup, ld1uelem, idxStr_str, amin2uint, amax2uint, rangeStr_str, sliceStr_from, sliceStr_to, List.getElem?_cons_zero, List.getElem?_cons_succ, Option.map_some, Option.bind_some, Int.toNat_natCast, Int.toNat_zero, Int.le_refl, Bool.not_true, Bool.not_false, Bool.not_not, Bool.false_eq_true, if_true, if_false, decide_eq_true_eq, beq_self_eq_true, bool_ft, bool_tf, decide_true, decide_false, reduceCtorEq, cmpNil, cmpRes, boxCells, AV.known, AV.cells, Nat.zero_add, and_self, and_true, true_and, ite_self, forall_const, not_true_eq_false, not_false_eq_true, h85, st 7 (.int .i64 x) rfl (by omega), r_hostlerlaw21uStep_p130983, isx]
          exact go { m with epoch := x } H (by rw [hl]; simp only [h78, h83, h85, if_false]) hf
-- the kinds
def KL : List Bs := [[], wRun, wKill, wShut, wAck, wAsk, wWelcome, wHello, wReport, wGone]
def kf (h : Bs) : Nat → Nat
  | 0 => 0
  | i + 1 => if 0 < i ∧ KL[i]? = some h then i else kf h i
theorem kf_kind (h : Bs) : kindOf h = if kf h 10 = 0 then none else some ((kf h 10 : Nat) : Int) := by
  have e : kf h 10 = if wGone = h then 9 else if wReport = h then 8 else if wHello = h then 7 else if wWelcome = h then 6 else if wAsk = h then 5 else if wAck = h then 4 else if wShut = h then 3 else if wKill = h then 2 else if wRun = h then 1 else 0 := by
    simp [kf, KL]
  rw [e]
  by_cases h1 : wRun = h
  · subst h1; decide
  by_cases h2 : wKill = h
  · subst h2; decide
  by_cases h3 : wShut = h
  · subst h3; decide
  by_cases h4 : wAck = h
  · subst h4; decide
  by_cases h5 : wAsk = h
  · subst h5; decide
  by_cases h6 : wWelcome = h
  · subst h6; decide
  by_cases h7 : wHello = h
  · subst h7; decide
  by_cases h8 : wReport = h
  · subst h8; decide
  by_cases h9 : wGone = h
  · subst h9; decide
  · have b : ∀ w : Bs, ¬ w = h → (h == w) = false := fun w hw => by simpa using fun e => hw e.symm
    simp only [h1, h2, h3, h4, h5, h6, h7, h8, h9, if_false, if_true, kindOf, kindsL, List.lookup_cons, b _ h1, b _ h2, b _ h3, b _ h4, b _ h5, b _ h6, b _ h7, b _ h8, b _ h9, List.lookup_nil]
theorem kf_le (h : Bs) : ∀ i, kf h i ≤ i
  | 0 => Nat.le_refl _
  | i + 1 => by
    have := kf_le h i
    simp only [kf]; split <;> omega
theorem c_dStep_kinds (h0 : Bs) (ws : List Bs) {g : Grow} (k : ∀ H', FS H0 o { kind := (kf h0 10 : Nat) } .nils H' → LoopP (r_hostlerlaw21uStep_p2036 K) [.sl g 1 ((h0 :: ws).map .str), .ptr o 0, .ptr (o + 1) 0, .ptr (o + 2) 0, .sl .full 1 (KL.map .str), .int .i64 10, .int .i64 10] H') :
    ∀ (n i : Nat) (H : AH), i + n = 10 → FS H0 o { kind := (kf h0 i : Nat) } .nils H → LoopP (r_hostlerlaw21uStep_p2036 K) [.sl g 1 ((h0 :: ws).map .str), .ptr o 0, .ptr (o + 1) 0, .ptr (o + 2) 0, .sl .full 1 (KL.map .str), .int .i64 10, .int .i64 i] H
  | 0, i, H, hin, hf => by
    obtain rfl : i = 10 := by omega
    exact k H hf
  | n + 1, i, H, hin, hf => by
    refine .fold ?_
    have hlen : KL.length = 10 := rfl
    have hx : KL[i]? = some (KL[i]'(by omega)) := List.getElem?_eq_getElem _
    generalize hw : KL[i]'(by omega) = w at hx
    have h1 : ((i : Int) < 10) := by omega
    have eh : idxA 1 (.sl g 1 ((h0 :: ws).map .str)) (.int .i64 0) = some (.elem [.str h0] 0) := by simp [idxA, AV.known, AV.cells]
    have isx := i_succ (show i < 9223372036854775807 by omega)
    simp only [r_hostlerlaw21uStep_p2036, abin_i_add, abin_i_sub, abin_i_mul, abin_i_eql, abin_i_neq, abin_i_lss, abin_i_leq, abin_i_gtr, abin_i_geq, abin_s_eql, abin_s_neq, bnd_some, bnd_none, branch_bool, gwant_bool, gwant_nothing, aguard_some, wantE_some, pickV_bool, nilck_ptr, nilck_elem, aoff_ptr, aoff_elem, aun_not, aun_neg, lenStr_str, lenSl_nils, lenSl_sl, lenSl_osl, aextract_tup, ld1uelem, idxStr_str, amin2uint, amax2uint, rangeStr_str, sliceStr_from, sliceStr_to, List.getElem?_cons_zero, List.getElem?_cons_succ, Option.map_some, Option.bind_some, Int.toNat_natCast, Int.toNat_zero, Int.le_refl, Bool.not_true, Bool.not_false, Bool.not_not, Bool.false_eq_true, if_true, if_false, decide_eq_true_eq, beq_self_eq_true, bool_ft, bool_tf, decide_true, decide_false, reduceCtorEq, cmpNil, cmpRes, boxCells, AV.known, AV.cells, Nat.zero_add, and_self, and_true, true_and, ite_self, forall_const, not_true_eq_false, not_false_eq_true, h1, idx_strs hx, eh, r_hostlerlaw21uStep_p16295, isx]
    by_cases hp : (i : Int) > 0
    · simp only [abin_i_add, abin_i_sub, abin_i_mul, abin_i_eql, abin_i_neq, abin_i_lss, abin_i_leq, abin_i_gtr, abin_i_geq, abin_s_eql, abin_s_neq, bnd_some, bnd_none, branch_bool, gwant_bool, gwant_nothing, aguard_some, wantE_some, pickV_bool, nilck_ptr, nilck_elem, aoff_ptr, aoff_elem, aun_not, aun_neg, lenStr_str, lenSl_nils, lenSl_sl, lenSl_osl, aextract_tup, ld1uelem, idxStr_str, amin2uint, amax2uint, rangeStr_str, sliceStr_from, sliceStr_to, List.getElem?_cons_zero, List.getElem?_cons_succ, Option.map_some, Option.bind_some, Int.toNat_natCast, Int.toNat_zero, Int.le_refl, Bool.not_true, Bool.not_false, Bool.not_not, Bool.false_eq_true, if_true, if_false, decide_eq_true_eq, beq_self_eq_true, bool_ft, bool_tf, decide_true, decide_false, reduceCtorEq, cmpNil, cmpRes, boxCells, AV.known, AV.cells, Nat.zero_add, and_self, and_true, true_and, ite_self, forall_const, not_true_eq_false, not_false_eq_true, hp]
      cases hwh : (w == h0) with
      | true =>
        have hwh' : w = h0 := by simpa using hwh
        have st : ast 1 (.ptr (o + 2) 0) (.int .i64 i) H = some (H.put (o + 2) (.cells (msgCells { kind := (i : Int) } .nils))) := ast1uptr hf.g10 rfl (show 0 < 9 by omega)
        simp only [abin_i_add, abin_i_sub, abin_i_mul, abin_i_eql, abin_i_neq, abin_i_lss, abin_i_leq, abin_i_gtr, abin_i_geq, abin_s_eql, abin_s_neq, bnd_some, bnd_none, branch_bool, gwant_bool, gwant_nothing, aguard_some, wantE_some, pickV_bool, nilck_ptr, nilck_elem, aoff_ptr, aoff_elem, aun_not, aun_neg, lenStr_str, lenSl_nils, lenSl_sl, lenSl_osl, aextract_tup, ld1uelem, idxStr_str, amin2uint, amax2uint, rangeStr_str, sliceStr_from, sliceStr_to, List.getElem?_cons_zero, List.getElem?_cons_succ, Option.map_some, Option.bind_some, Int.toNat_natCast, Int.toNat_zero, Int.le_refl, Bool.not_true, Bool.not_false, Bool.not_not, Bool.false_eq_true, if_true, if_false, decide_eq_true_eq, beq_self_eq_true, bool_ft, bool_tf, decide_true, decide_false, reduceCtorEq, cmpNil, cmpRes, boxCells, AV.known, AV.cells, Nat.zero_add, and_self, and_true, true_and, ite_self, forall_const, not_true_eq_false, not_false_eq_true, st]
        refine c_dStep_kinds h0 ws k n (i + 1) _ (by omega) ?_
        have e : kf h0 (i + 1) = i := by simp only [kf]; rw [if_pos ⟨by omega, by rw [hx, hwh']⟩]
        rw [e]
        exact hf.put (m' := { kind := (i : Int) }) (.inl ⟨rfl, rfl⟩)
      | false =>
        have hwh' : w ≠ h0 := by simpa using hwh
        simp only [abin_i_add, abin_i_sub, abin_i_mul, abin_i_eql, abin_i_neq, abin_i_lss, abin_i_leq, abin_i_gtr, abin_i_geq, abin_s_eql, abin_s_neq, bnd_some, bnd_none, branch_bool, gwant_bool, gwant_nothing, aguard_some, wantE_some, pickV_bool, nilck_ptr, nilck_elem, aoff_ptr, aoff_elem, aun_not, aun_neg, lenStr_str, lenSl_nils, lenSl_sl, lenSl_osl, aextract_tup, ld1uelem, idxStr_str, amin2uint, amax2uint, rangeStr_str, sliceStr_from, sliceStr_to, List.getElem?_cons_zero, List.getElem?_cons_succ, Option.map_some, Option.bind_some, Int.toNat_natCast, Int.toNat_zero, Int.le_refl, Bool.not_true, Bool.not_false, Bool.not_not, Bool.false_eq_true, if_true, if_false, decide_eq_true_eq, beq_self_eq_true, bool_ft, bool_tf, decide_true, decide_false, reduceCtorEq, cmpNil, cmpRes, boxCells, AV.known, AV.cells, Nat.zero_add, and_self, and_true, true_and, ite_self, forall_const, not_true_eq_false, not_false_eq_true]
        refine c_dStep_kinds h0 ws k n (i + 1) _ (by omega) ?_
        have e : kf h0 (i + 1) = kf h0 i := by simp only [kf]; rw [if_neg (by rw [hx]; simp [hwh'])]
        rw [e]; exact hf
    · simp only [abin_i_add, abin_i_sub, abin_i_mul, abin_i_eql, abin_i_neq, abin_i_lss, abin_i_leq, abin_i_gtr, abin_i_geq, abin_s_eql, abin_s_neq, bnd_some, bnd_none, branch_bool, gwant_bool, gwant_nothing, aguard_some, wantE_some, pickV_bool, nilck_ptr, nilck_elem, aoff_ptr, aoff_elem, aun_not, aun_neg, lenStr_str, lenSl_nils, lenSl_sl, lenSl_osl, aextract_tup, ld1uelem, idxStr_str, amin2uint, amax2uint, rangeStr_str, sliceStr_from, sliceStr_to, List.getElem?_cons_zero, List.getElem?_cons_succ, Option.map_some, Option.bind_some, Int.toNat_natCast, Int.toNat_zero, Int.le_refl, Bool.not_true, Bool.not_false, Bool.not_not, Bool.false_eq_true, if_true, if_false, decide_eq_true_eq, beq_self_eq_true, bool_ft, bool_tf, decide_true, decide_false, reduceCtorEq, cmpNil, cmpRes, boxCells, AV.known, AV.cells, Nat.zero_add, and_self, and_true, true_and, ite_self, forall_const, not_true_eq_false, not_false_eq_true, hp]
      refine c_dStep_kinds h0 ws k n (i + 1) _ (by omega) ?_
      have e : kf h0 (i + 1) = kf h0 i := by simp only [kf]; rw [if_neg (by omega)]
      rw [e]; exact hf
end
theorem c_dStep {K : AV → AH → Prop} (l : List Bs) (hne : l ≠ []) (hw : WSmall l) {v : AV} (hv : IsSl 1 .str v l) {H : AH} (hok : ∀ s iv H', stepD l = some s → Ext H H' → IsItems iv s.msg.items → K (.tup [.agg (stepCells s iv), .bool true]) H')
    (hno : stepD l = none → ∀ H', Ext H H' → K (.tup [.agg step0, .bool false]) H') : r_hostlerlaw21uStep [v] H K := by
  obtain ⟨g, rfl⟩ : ∃ g, v = .sl g 1 (l.map .str) := by
    rcases hv with ⟨_, h⟩ | h
    · exact absurd h hne
    · exact h
  obtain ⟨h0, ws, rfl⟩ : ∃ a b, l = a :: b := by cases l with
    | nil => exact absurd rfl hne
    | cons a b => exact ⟨a, b, rfl⟩
  have hws : WSmall ws := ⟨by have := hw.1; simp at this; omega, fun s hs => hw.2 s (List.mem_cons_of_mem _ hs)⟩
  have hwl : ws.length ≤ 1000000000 := hws.1
  have e00 : [AV.int .i64 0, .int .i64 0, .str [], .str [], .str [], .int .i64 0, .int .i64 0, .int .i64 0, .int .i64 0, .nils, .int .i64 0, .int .i64 0] = step0 := rfl
  have em0 : [AV.int .i64 0, .str [], .str [], .str [], .int .i64 0, .int .i64 0, .int .i64 0, .int .i64 0, .nils] = msgCells {} .nils := rfl
  have ea : astruct [(0, 1), (1, 9), (10, 1), (11, 1)] step0 [] = some (.agg step0) := rfl
  have eam : astruct [(0, 1), (1, 1), (2, 1), (3, 1), (4, 1), (5, 1), (6, 1), (7, 1), (8, 1)] (msgCells {} .nils) [] = some (.agg (msgCells {} .nils)) := rfl
  have eh : idxA 1 (.sl g 1 (AV.str h0 :: ws.map .str)) (.int .i64 0) = some (.elem [.str h0] 0) := by simp [idxA, AV.known, AV.cells]
  have hle : (((AV.str h0 :: ws.map .str).length : Int) == 0) = false := by simp only [List.length_cons, beq_eq_false_iff_ne]; omega
  have eT : (h0 == [116, 105, 99, 107]) = decide (h0 = wTick) := by rw [Bool.eq_iff_iff, beq_iff_eq, decide_eq_true_eq]; rfl
  have eF : (h0 == [102, 117, 115, 101]) = decide (h0 = wFuse) := by rw [Bool.eq_iff_iff, beq_iff_eq, decide_eq_true_eq]; rfl
  have eC : (h0 == [99, 114, 97, 115, 104]) = decide (h0 = wCrash) := by rw [Bool.eq_iff_iff, beq_iff_eq, decide_eq_true_eq]; rfl
  have st4 : ast 12 (.ptr (H.next + 1) 0) (.agg step0) ((H.add (.cells step0)).add (.cells step0)) = some ((H.add (.cells step0)).add (.cells step0)) := by
    have := ast12 (cs := step0) (get_add_self (H.add (.cells step0)) (.cells step0)) rfl rfl rfl
    rw [add_put] at this; exact this
  simp only [r_hostlerlaw21uStep, abin_i_add, abin_i_sub, abin_i_mul, abin_i_eql, abin_i_neq, abin_i_lss, abin_i_leq, abin_i_gtr, abin_i_geq, abin_s_eql, abin_s_neq, bnd_some, bnd_none, branch_bool, gwant_bool, gwant_nothing, aguard_some, wantE_some, pickV_bool, nilck_ptr, nilck_elem, aoff_ptr, aoff_elem, aun_not, aun_neg, lenStr_str, lenSl_nils, lenSl_sl, lenSl_osl, aextract_tup, ld1uelem, idxStr_str, amin2uint, amax2uint, rangeStr_str, sliceStr_from, sliceStr_to, List.getElem?_cons_zero, List.getElem?_cons_succ, Option.map_some, Option.bind_some, Int.toNat_natCast, Int.toNat_zero, Int.le_refl, Bool.not_true, Bool.not_false, Bool.not_not, Bool.false_eq_true, if_true, if_false, decide_eq_true_eq, beq_self_eq_true, bool_ft, bool_tf, decide_true, decide_false, reduceCtorEq, cmpNil, cmpRes, boxCells, AV.known, AV.cells, Nat.zero_add, and_self, and_true, true_and, ite_self, forall_const, not_true_eq_false, not_false_eq_true, List.map_cons, e00, ea, next_add, st4, hle, eh, eT, eF, eC]
  generalize hHH : (H.add (.cells step0)).add (.cells step0) = HH
  have hHn : HH.next = H.next + 2 := by rw [← hHH]; rfl
  have hfn : FN H H.next HH := by
    refine ⟨Nat.le_refl _, by omega, ⟨step0, ?_, rfl⟩, ?_, ?_⟩
    · rw [← hHH, get_add_ne _ _ (by simp)]; exact get_add_self _ _
    · rw [← hHH]; exact get_add_self (H.add (.cells step0)) (.cells step0)
    · rw [← hHH]; exact ((Ext.refl H).add _).add _
  by_cases hk3 : h0 = wTick ∨ h0 = wFuse ∨ h0 = wCrash
  · have hsd : stepD (h0 :: ws) = match numsD ws with
      | none => none
      | some ns => tickD h0 ns := by
        simp only [stepD]; rw [if_pos hk3]; cases numsD ws <;> rfl
    have go : LoopP (r_hostlerlaw21uStep_p4004 K) [.sl g 1 (AV.str h0 :: ws.map .str), .ptr H.next 0, .ptr (H.next + 1) 0, .nils, .sl g 1 (ws.map .str), .int .i64 (ws.map AV.str).length, .int .i64 0] HH := by
      have htk : ∀ ns s, tickD h0 ns = some s → IsItems .nils s.msg.items := fun ns s hs => by
        unfold tickD at hs
        repeat' split at hs
        all_goals first | (cases hs; exact .inl ⟨rfl, rfl⟩) | cases hs
      rw [List.length_map]
      refine c_dStep_nums h0 ws hws hk3 (fun ns s h1 h2 H' hx' => hok s .nils H' (by rw [hsd, h1]; exact h2) hx' (htk ns s h2)) (fun hh H' hx' => hno (by
        rw [hsd]
        rcases hh with h1 | ⟨ns, h1, h2⟩
        · rw [h1]
        · rw [h1]; exact h2) H' hx') ws 0 [] .nils HH rfl (by omega) rfl (fun l => by simp) (.inl ⟨rfl, rfl⟩) hfn
    rcases hk3 with h1 | h1 | h1
    · subst h1
      simp only [abin_i_add, abin_i_sub, abin_i_mul, abin_i_eql, abin_i_neq, abin_i_lss, abin_i_leq, abin_i_gtr, abin_i_geq, abin_s_eql, abin_s_neq, bnd_some, bnd_none, branch_bool, gwant_bool, gwant_nothing, aguard_some, wantE_some, pickV_bool, nilck_ptr, nilck_elem, aoff_ptr, aoff_elem, aun_not, aun_neg, lenStr_str, lenSl_nils, lenSl_sl, lenSl_osl, aextract_tup, ld1uelem, idxStr_str, amin2uint, amax2uint, rangeStr_str, sliceStr_from, sliceStr_to, List.getElem?_cons_zero, List.getElem?_cons_succ, Option.map_some, Option.bind_some, Int.toNat_natCast, Int.toNat_zero, Int.le_refl, Bool.not_true, Bool.not_false, Bool.not_not, Bool.false_eq_true, if_true, if_false, decide_eq_true_eq, beq_self_eq_true, bool_ft, bool_tf, decide_true, decide_false, reduceCtorEq, cmpNil, cmpRes, boxCells, AV.known, AV.cells, Nat.zero_add, and_self, and_true, true_and, ite_self, forall_const, not_true_eq_false, not_false_eq_true, eh, eF, eC, sliceSl_from1]
      exact go
    · subst h1
      simp only [abin_i_add, abin_i_sub, abin_i_mul, abin_i_eql, abin_i_neq, abin_i_lss, abin_i_leq, abin_i_gtr, abin_i_geq, abin_s_eql, abin_s_neq, bnd_some, bnd_none, branch_bool, gwant_bool, gwant_nothing, aguard_some, wantE_some, pickV_bool, nilck_ptr, nilck_elem, aoff_ptr, aoff_elem, aun_not, aun_neg, lenStr_str, lenSl_nils, lenSl_sl, lenSl_osl, aextract_tup, ld1uelem, idxStr_str, amin2uint, amax2uint, rangeStr_str, sliceStr_from, sliceStr_to, List.getElem?_cons_zero, List.getElem?_cons_succ, Option.map_some, Option.bind_some, Int.toNat_natCast, Int.toNat_zero, Int.le_refl, Bool.not_true, Bool.not_false, Bool.not_not, Bool.false_eq_true, if_true, if_false, decide_eq_true_eq, beq_self_eq_true, bool_ft, bool_tf, decide_true, decide_false, reduceCtorEq, cmpNil, cmpRes, boxCells, AV.known, AV.cells, Nat.zero_add, and_self, and_true, true_and, ite_self, forall_const, not_true_eq_false, not_false_eq_true, eh, eF, eC, sliceSl_from1, show (wFuse = wTick) = False from by decide]
      exact go
    · subst h1
      simp only [abin_i_add, abin_i_sub, abin_i_mul, abin_i_eql, abin_i_neq, abin_i_lss, abin_i_leq, abin_i_gtr, abin_i_geq, abin_s_eql, abin_s_neq, bnd_some, bnd_none, branch_bool, gwant_bool, gwant_nothing, aguard_some, wantE_some, pickV_bool, nilck_ptr, nilck_elem, aoff_ptr, aoff_elem, aun_not, aun_neg, lenStr_str, lenSl_nils, lenSl_sl, lenSl_osl, aextract_tup, ld1uelem, idxStr_str, amin2uint, amax2uint, rangeStr_str, sliceStr_from, sliceStr_to, List.getElem?_cons_zero, List.getElem?_cons_succ, Option.map_some, Option.bind_some, Int.toNat_natCast, Int.toNat_zero, Int.le_refl, Bool.not_true, Bool.not_false, Bool.not_not, Bool.false_eq_true, if_true, if_false, decide_eq_true_eq, beq_self_eq_true, bool_ft, bool_tf, decide_true, decide_false, reduceCtorEq, cmpNil, cmpRes, boxCells, AV.known, AV.cells, Nat.zero_add, and_self, and_true, true_and, ite_self, forall_const, not_true_eq_false, not_false_eq_true, eh, eF, eC, sliceSl_from1, show (wCrash = wTick) = False from by decide, show (wCrash = wFuse) = False from by decide]
      exact go
  · have n1 : ¬ h0 = wTick := fun e => hk3 (.inl e)
    have n2 : ¬ h0 = wFuse := fun e => hk3 (.inr (.inl e))
    have n3 : ¬ h0 = wCrash := fun e => hk3 (.inr (.inr e))
    have st10 : ast 9 (.ptr HH.next 0) (.agg (msgCells {} .nils)) (HH.add (.cells (msgCells {} .nils))) = some (HH.add (.cells (msgCells {} .nils))) := by
      have := ast_all (cs := msgCells {} .nils) (get_add_self HH (.cells (msgCells {} .nils))) rfl rfl
      rw [add_put] at this; exact this
    simp only [abin_i_add, abin_i_sub, abin_i_mul, abin_i_eql, abin_i_neq, abin_i_lss, abin_i_leq, abin_i_gtr, abin_i_geq, abin_s_eql, abin_s_neq, bnd_some, bnd_none, branch_bool, gwant_bool, gwant_nothing, aguard_some, wantE_some, pickV_bool, nilck_ptr, nilck_elem, aoff_ptr, aoff_elem, aun_not, aun_neg, lenStr_str, lenSl_nils, lenSl_sl, lenSl_osl, aextract_tup, ld1uelem, idxStr_str, amin2uint, amax2uint, rangeStr_str, sliceStr_from, sliceStr_to, List.getElem?_cons_zero, List.getElem?_cons_succ, Option.map_some, Option.bind_some, Int.toNat_natCast, Int.toNat_zero, Int.le_refl, Bool.not_true, Bool.not_false, Bool.not_not, Bool.false_eq_true, if_true, if_false, decide_eq_true_eq, beq_self_eq_true, bool_ft, bool_tf, decide_true, decide_false, reduceCtorEq, cmpNil, cmpRes, boxCells, AV.known, AV.cells, Nat.zero_add, and_self, and_true, true_and, ite_self, forall_const, not_true_eq_false, not_false_eq_true, n1, n2, n3, eh, eF, eC, em0, eam, st10]
    refine c_kinds ?_
    obtain ⟨c2, hc2, hcl⟩ := hfn.g2
    have hf : FS H H.next { kind := ((kf h0 0 : Nat) : Int) } .nils (HH.add (.cells (msgCells {} .nils))) := by
      refine ⟨Nat.le_refl _, by simp only [next_add]; omega, ⟨c2, by rw [get_add_ne _ _ (by omega)]; exact hc2, hcl⟩, by rw [get_add_ne _ _ (by omega)]; exact hfn.g4, ?_, .inl ⟨rfl, rfl⟩, hfn.hx.add _⟩
      rw [← hHn]; exact get_add_self _ _
    simp only [abin_i_add, abin_i_sub, abin_i_mul, abin_i_eql, abin_i_neq, abin_i_lss, abin_i_leq, abin_i_gtr, abin_i_geq, abin_s_eql, abin_s_neq, bnd_some, bnd_none, branch_bool, gwant_bool, gwant_nothing, aguard_some, wantE_some, pickV_bool, nilck_ptr, nilck_elem, aoff_ptr, aoff_elem, aun_not, aun_neg, lenStr_str, lenSl_nils, lenSl_sl, lenSl_osl, aextract_tup, ld1uelem, idxStr_str, amin2uint, amax2uint, rangeStr_str, sliceStr_from, sliceStr_to, List.getElem?_cons_zero, List.getElem?_cons_succ, Option.map_some, Option.bind_some, Int.toNat_natCast, Int.toNat_zero, Int.le_refl, Bool.not_true, Bool.not_false, Bool.not_not, Bool.false_eq_true, if_true, if_false, decide_eq_true_eq, beq_self_eq_true, bool_ft, bool_tf, decide_true, decide_false, reduceCtorEq, cmpNil, cmpRes, boxCells, AV.known, AV.cells, Nat.zero_add, and_self, and_true, true_and, ite_self, forall_const, not_true_eq_false, not_false_eq_true, hHn]
    show LoopP _ [.sl g 1 ((h0 :: ws).map .str), .ptr H.next 0, .ptr (H.next + 1) 0, .ptr (H.next + 2) 0, .sl .full 1 (KL.map .str), .int .i64 10, .int .i64 ((0 : Nat) : Int)] _
    refine c_dStep_kinds h0 ws (fun H1 hf1 => ?_) 10 0 _ (by omega) hf
    refine .fold ?_
    have hlt : ¬ ((10 : Int) < 10) := by omega
    have hkk := kf_kind h0
    have hsd : stepD (h0 :: ws) = match kindOf h0 with
      | none => none
      | some k => match fieldsD (fieldsOf k) ws { kind := k } with
        | none => none
        | some (r, m) => if r = [] ∧ checkM m = true then some { kind := 1, msg := m } else none := by
      simp only [stepD]; rw [if_neg hk3]
      cases kindOf h0 with
      | none => rfl
      | some k => simp only; cases fieldsD (fieldsOf k) ws { kind := k } <;> rfl
    have e0 : (msgCells { kind := ((kf h0 10 : Nat) : Int) } .nils)[0]? = some (.int .i64 ((kf h0 10 : Nat) : Int)) := rfl
    simp only [r_hostlerlaw21uStep_p2036, abin_i_add, abin_i_sub, abin_i_mul, abin_i_eql, abin_i_neq, abin_i_lss, abin_i_leq, abin_i_gtr, abin_i_geq, abin_s_eql, abin_s_neq, bnd_some, bnd_none, branch_bool, gwant_bool, gwant_nothing, aguard_some, wantE_some, pickV_bool, nilck_ptr, nilck_elem, aoff_ptr, aoff_elem, aun_not, aun_neg, lenStr_str, lenSl_nils, lenSl_sl, lenSl_osl, aextract_tup, ld1uelem, idxStr_str, amin2uint, amax2uint, rangeStr_str, sliceStr_from, sliceStr_to, List.getElem?_cons_zero, List.getElem?_cons_succ, Option.map_some, Option.bind_some, Int.toNat_natCast, Int.toNat_zero, Int.le_refl, Bool.not_true, Bool.not_false, Bool.not_not, Bool.false_eq_true, if_true, if_false, decide_eq_true_eq, beq_self_eq_true, bool_ft, bool_tf, decide_true, decide_false, reduceCtorEq, cmpNil, cmpRes, boxCells, AV.known, AV.cells, Nat.zero_add, and_self, and_true, true_and, ite_self, forall_const, not_true_eq_false, not_false_eq_true, hlt, ld1uptr hf1.g10, e0, List.map_cons, sliceSl_from1]
    by_cases hz : kf h0 10 = 0
    · rw [hz] at hkk
      have : ((((kf h0 10 : Nat) : Int)) == 0) = true := by rw [hz]; rfl
      simp only [abin_i_add, abin_i_sub, abin_i_mul, abin_i_eql, abin_i_neq, abin_i_lss, abin_i_leq, abin_i_gtr, abin_i_geq, abin_s_eql, abin_s_neq, bnd_some, bnd_none, branch_bool, gwant_bool, gwant_nothing, aguard_some, wantE_some, pickV_bool, nilck_ptr, nilck_elem, aoff_ptr, aoff_elem, aun_not, aun_neg, lenStr_str, lenSl_nils, lenSl_sl, lenSl_osl, aextract_tup, ld1uelem, idxStr_str, amin2uint, amax2uint, rangeStr_str, sliceStr_from, sliceStr_to, List.getElem?_cons_zero, List.getElem?_cons_succ, Option.map_some, Option.bind_some, Int.toNat_natCast, Int.toNat_zero, Int.le_refl, Bool.not_true, Bool.not_false, Bool.not_not, Bool.false_eq_true, if_true, if_false, decide_eq_true_eq, beq_self_eq_true, bool_ft, bool_tf, decide_true, decide_false, reduceCtorEq, cmpNil, cmpRes, boxCells, AV.known, AV.cells, Nat.zero_add, and_self, and_true, true_and, ite_self, forall_const, not_true_eq_false, not_false_eq_true, this]
      exact hf1.fn.fail (hno (by rw [hsd, hkk]; rfl))
    · rw [if_neg hz] at hkk
      have : ((((kf h0 10 : Nat) : Int)) == 0) = false := by simpa using hz
      simp only [abin_i_add, abin_i_sub, abin_i_mul, abin_i_eql, abin_i_neq, abin_i_lss, abin_i_leq, abin_i_gtr, abin_i_geq, abin_s_eql, abin_s_neq, bnd_some, bnd_none, branch_bool, gwant_bool, gwant_nothing, aguard_some, wantE_some, pickV_bool, nilck_ptr, nilck_elem, aoff_ptr, aoff_elem, aun_not, aun_neg, lenStr_str, lenSl_nils, lenSl_sl, lenSl_osl, aextract_tup, ld1uelem, idxStr_str, amin2uint, amax2uint, rangeStr_str, sliceStr_from, sliceStr_to, List.getElem?_cons_zero, List.getElem?_cons_succ, Option.map_some, Option.bind_some, Int.toNat_natCast, Int.toNat_zero, Int.le_refl, Bool.not_true, Bool.not_false, Bool.not_not, Bool.false_eq_true, if_true, if_false, decide_eq_true_eq, beq_self_eq_true, bool_ft, bool_tf, decide_true, decide_false, reduceCtorEq, cmpNil, cmpRes, boxCells, AV.known, AV.cells, Nat.zero_add, and_self, and_true, true_and, ite_self, forall_const, not_true_eq_false, not_false_eq_true, this]
      refine c_ref_Fields _ ?_
      have hbl : (bytesOf (fieldsOf ((kf h0 10 : Nat) : Int))).length = (fieldsOf ((kf h0 10 : Nat) : Int)).length := by simp [bytesOf]
      simp only [strBytes, abin_i_add, abin_i_sub, abin_i_mul, abin_i_eql, abin_i_neq, abin_i_lss, abin_i_leq, abin_i_gtr, abin_i_geq, abin_s_eql, abin_s_neq, bnd_some, bnd_none, branch_bool, gwant_bool, gwant_nothing, aguard_some, wantE_some, pickV_bool, nilck_ptr, nilck_elem, aoff_ptr, aoff_elem, aun_not, aun_neg, lenStr_str, lenSl_nils, lenSl_sl, lenSl_osl, aextract_tup, ld1uelem, idxStr_str, amin2uint, amax2uint, rangeStr_str, sliceStr_from, sliceStr_to, List.getElem?_cons_zero, List.getElem?_cons_succ, Option.map_some, Option.bind_some, Int.toNat_natCast, Int.toNat_zero, Int.le_refl, Bool.not_true, Bool.not_false, Bool.not_not, Bool.false_eq_true, if_true, if_false, decide_eq_true_eq, beq_self_eq_true, bool_ft, bool_tf, decide_true, decide_false, reduceCtorEq, cmpNil, cmpRes, boxCells, AV.known, AV.cells, Nat.zero_add, and_self, and_true, true_and, ite_self, forall_const, not_true_eq_false, not_false_eq_true, hbl]
      have hkm := kindOf_mem hkk
      have hfl : ∀ f ∈ fieldsOf ((kf h0 10 : Nat) : Int), inLetters f := by
        generalize ((kf h0 10 : Nat) : Int) = k at hkm
        rcases hkm with rfl | rfl | rfl | rfl | rfl | rfl | rfl | rfl | rfl <;> (intro f hf; revert f hf; simp [fieldsOf, inLetters])
      have hstd : stepD (h0 :: ws) = (tellD (fieldsOf ((kf h0 10 : Nat) : Int)) ws { kind := ((kf h0 10 : Nat) : Int) }).map fun m => { kind := 1, msg := m } := by
        rw [hsd, hkk]
        simp only [tellD]
        cases fieldsD (fieldsOf ((kf h0 10 : Nat) : Int)) ws { kind := ((kf h0 10 : Nat) : Int) } with
        | none => rfl
        | some p => obtain ⟨r, m⟩ := p; simp only; split <;> rfl
      refine c_dStep_fields (fieldsOf ((kf h0 10 : Nat) : Int)) (fieldsOf_len _) hfl (ws0 := ws) (m0 := { kind := ((kf h0 10 : Nat) : Int) }) (fun m iv H' hm hx' hiv => hok { kind := 1, msg := m } iv H' (by rw [hstd, hm]; rfl) hx' hiv) (fun hm H' hx' => hno (by rw [hstd, hm]; rfl) H' hx') _ 0 ws _ .nils H1 rfl (by omega) hws (by simp; omega) ⟨by simp, by simp, by simp, by simp, by simp⟩ rfl hf1
end Go.Va

/-
  Contracts: the document's reading of a text, and the statement on any text.
-/
set_option linter.unusedVariables false
set_option linter.unusedSimpArgs false
set_option maxRecDepth 100000
namespace Go.Va
theorem parseL_blank : ∀ (L : List Bs), parseL (L ++ [[]]) = parseL L
  | [] => by simp [parseL, wordsOf, splitB]
  | a :: L => by
    have ih := parseL_blank L
    simp only [List.cons_append, parseL, ih]
theorem parse_lines {s : Bs} {L : List Bs} (h : LinesOf s L) : parseS s = parseL L := by
  unfold parseS
  rcases h with h | h
  · rw [h]
  · rw [h, parseL_blank]
section
variable {K : AV → AH → Prop}
theorem IsSl.len {α : Type} {sz : Nat} {enc : α → AV} {v : AV} {l : List α} (h : IsSl sz enc v l) : lenSl v = some (.int .i64 l.length) := by
  rcases h with ⟨rfl, rfl⟩ | ⟨g, rfl⟩
  · rfl
  · simp
theorem c_dParse_loop {H0 : AH} (L : List Bs) (hl : L.length ≤ 900000000) (hL : ∀ l ∈ L, l.length ≤ 900000000) {g : Grow} : ∀ (r : List Bs) (i : Nat) (done : List Step) (es : List AV) (v : AV) (H : AH), L.drop i = r → i ≤ L.length → done.length ≤ i → Rel2 StepR es done → IsGrow 12 id H0 v es H → Ext H0 H →
    (∀ l, parseL r = some l → ∀ H' v', Ext H0 H' → IsSteps v' (done ++ l) → K (.tup [v', .bool true]) H') → (parseL r = none → ∀ H', Ext H0 H' → K (.tup [.nils, .bool false]) H') →
    LoopP (r_hostlerlaw21uParse_p116 K) [v, .sl g 1 (L.map .str), .int .i64 L.length, .int .i64 i] H
  | [], i, done, es, v, H, hr, hil, hdl, hrel, hg, hx, hok, hno => by
    refine .fold ?_
    have hi : L.length ≤ i := by simpa using hr
    have hlt : ¬ ((i : Int) < (L.length : Int)) := by omega
    simp only [r_hostlerlaw21uParse_p116, abin_i_add, abin_i_sub, abin_i_mul, abin_i_eql, abin_i_neq, abin_i_lss, abin_i_leq, abin_i_gtr, abin_i_geq, abin_s_eql, abin_s_neq, bnd_some, bnd_none, branch_bool, gwant_bool, gwant_nothing, aguard_some, wantE_some, pickV_bool, nilck_ptr, nilck_elem, aoff_ptr, aoff_elem, aun_not, aun_neg, lenStr_str, lenSl_nils, lenSl_sl, lenSl_osl, aextract_tup, ld1uelem, idxStr_str, amin2uint, amax2uint, rangeStr_str, sliceStr_from, sliceStr_to, List.getElem?_cons_zero, List.getElem?_cons_succ, Option.map_some, Option.bind_some, Int.toNat_natCast, Int.toNat_zero, Int.le_refl, Bool.not_true, Bool.not_false, Bool.not_not, Bool.false_eq_true, if_true, if_false, decide_eq_true_eq, beq_self_eq_true, bool_ft, bool_tf, decide_true, decide_false, reduceCtorEq, cmpNil, cmpRes, boxCells, AV.known, AV.cells, Nat.zero_add, and_self, and_true, true_and, ite_self, forall_const, not_true_eq_false, not_false_eq_true, hlt]
    exact hok [] rfl H v hx ⟨es, hg.isSl, by simpa using hrel⟩
  | line :: r, i, done, es, v, H, hr, hil, hdl, hrel, hg, hx, hok, hno => by
    refine .fold ?_
    obtain ⟨hxx, hlt, hr', ht⟩ := drop_at hr
    have h1 : ((i : Int) < (L.length : Int)) := by omega
    have hline := hL line (List.mem_of_getElem? hxx)
    have isx := i_succ (show i < 9223372036854775807 by omega)
    simp only [r_hostlerlaw21uParse_p116, abin_i_add, abin_i_sub, abin_i_mul, abin_i_eql, abin_i_neq, abin_i_lss, abin_i_leq, abin_i_gtr, abin_i_geq, abin_s_eql, abin_s_neq, bnd_some, bnd_none, branch_bool, gwant_bool, gwant_nothing, aguard_some, wantE_some, pickV_bool, nilck_ptr, nilck_elem, aoff_ptr, aoff_elem, aun_not, aun_neg, lenStr_str, lenSl_nils, lenSl_sl, lenSl_osl, aextract_tup, ld1uelem, idxStr_str, amin2uint, amax2uint, rangeStr_str, sliceStr_from, sliceStr_to, List.getElem?_cons_zero, List.getElem?_cons_succ, Option.map_some, Option.bind_some, Int.toNat_natCast, Int.toNat_zero, Int.le_refl, Bool.not_true, Bool.not_false, Bool.not_not, Bool.false_eq_true, if_true, if_false, decide_eq_true_eq, beq_self_eq_true, bool_ft, bool_tf, decide_true, decide_false, reduceCtorEq, cmpNil, cmpRes, boxCells, AV.known, AV.cells, Nat.zero_add, and_self, and_true, true_and, ite_self, forall_const, not_true_eq_false, not_false_eq_true, h1, idx_strs hxx]
    refine c_Words line (by omega) fun vw H1 hx1 hvw => ?_
    have hx1' := hx.trans hx1
    have hg1 : IsGrow 12 id H0 v es H1 := hg.mono hx1.next (fun c hc => hx1.tok c hc)
    simp only [hvw.len, abin_i_add, abin_i_sub, abin_i_mul, abin_i_eql, abin_i_neq, abin_i_lss, abin_i_leq, abin_i_gtr, abin_i_geq, abin_s_eql, abin_s_neq, bnd_some, bnd_none, branch_bool, gwant_bool, gwant_nothing, aguard_some, wantE_some, pickV_bool, nilck_ptr, nilck_elem, aoff_ptr, aoff_elem, aun_not, aun_neg, lenStr_str, lenSl_nils, lenSl_sl, lenSl_osl, aextract_tup, ld1uelem, idxStr_str, amin2uint, amax2uint, rangeStr_str, sliceStr_from, sliceStr_to, List.getElem?_cons_zero, List.getElem?_cons_succ, Option.map_some, Option.bind_some, Int.toNat_natCast, Int.toNat_zero, Int.le_refl, Bool.not_true, Bool.not_false, Bool.not_not, Bool.false_eq_true, if_true, if_false, decide_eq_true_eq, beq_self_eq_true, bool_ft, bool_tf, decide_true, decide_false, reduceCtorEq, cmpNil, cmpRes, boxCells, AV.known, AV.cells, Nat.zero_add, and_self, and_true, true_and, ite_self, forall_const, not_true_eq_false, not_false_eq_true]
    unfold parseL at hok hno
    by_cases hw : wordsOf line = []
    · simp only [hw, if_true] at hok hno
      have e0 : ((([] : List Bs).length : Int) == 0) = true := rfl
      simp only [hw, e0, abin_i_add, abin_i_sub, abin_i_mul, abin_i_eql, abin_i_neq, abin_i_lss, abin_i_leq, abin_i_gtr, abin_i_geq, abin_s_eql, abin_s_neq, bnd_some, bnd_none, branch_bool, gwant_bool, gwant_nothing, aguard_some, wantE_some, pickV_bool, nilck_ptr, nilck_elem, aoff_ptr, aoff_elem, aun_not, aun_neg, lenStr_str, lenSl_nils, lenSl_sl, lenSl_osl, aextract_tup, ld1uelem, idxStr_str, amin2uint, amax2uint, rangeStr_str, sliceStr_from, sliceStr_to, List.getElem?_cons_zero, List.getElem?_cons_succ, Option.map_some, Option.bind_some, Int.toNat_natCast, Int.toNat_zero, Int.le_refl, Bool.not_true, Bool.not_false, Bool.not_not, Bool.false_eq_true, if_true, if_false, decide_eq_true_eq, beq_self_eq_true, bool_ft, bool_tf, decide_true, decide_false, reduceCtorEq, cmpNil, cmpRes, boxCells, AV.known, AV.cells, Nat.zero_add, and_self, and_true, true_and, ite_self, forall_const, not_true_eq_false, not_false_eq_true, r_hostlerlaw21uParse_p935, isx]
      exact c_dParse_loop L hl hL r (i + 1) done es v H1 hr' (by omega) (by omega) hrel hg1 hx1' hok hno
    · have e0 : (((wordsOf line).length : Int) == 0) = false := by
        have : (wordsOf line).length ≠ 0 := by simpa using hw
        simp only [beq_eq_false_iff_ne]; omega
      simp only [hw, if_false] at hok hno
      simp only [e0, abin_i_add, abin_i_sub, abin_i_mul, abin_i_eql, abin_i_neq, abin_i_lss, abin_i_leq, abin_i_gtr, abin_i_geq, abin_s_eql, abin_s_neq, bnd_some, bnd_none, branch_bool, gwant_bool, gwant_nothing, aguard_some, wantE_some, pickV_bool, nilck_ptr, nilck_elem, aoff_ptr, aoff_elem, aun_not, aun_neg, lenStr_str, lenSl_nils, lenSl_sl, lenSl_osl, aextract_tup, ld1uelem, idxStr_str, amin2uint, amax2uint, rangeStr_str, sliceStr_from, sliceStr_to, List.getElem?_cons_zero, List.getElem?_cons_succ, Option.map_some, Option.bind_some, Int.toNat_natCast, Int.toNat_zero, Int.le_refl, Bool.not_true, Bool.not_false, Bool.not_not, Bool.false_eq_true, if_true, if_false, decide_eq_true_eq, beq_self_eq_true, bool_ft, bool_tf, decide_true, decide_false, reduceCtorEq, cmpNil, cmpRes, boxCells, AV.known, AV.cells, Nat.zero_add, and_self, and_true, true_and, ite_self, forall_const, not_true_eq_false, not_false_eq_true]
      have hsd := stepD_eq (wordsOf line) hw
      have hwl : (wordsOf line).length ≤ 900000001 := by
        have hll := splitB_length 32 line
        have hc : line.count 32 ≤ line.length := List.count_le_length
        exact Nat.le_trans (List.length_filter_le _ _) (by omega)
      refine c_dStep (wordsOf line) hw (wordsOf_small hline) hvw (fun s iv H2 hs hx2 hiv => ?_) (fun hs H2 hx2 => ?_)
      · rw [hsd] at hs
        split at hs
        · rename_i hs2
          cases hs
          simp only [hs2, if_true] at hok hno
          have hx2' := hx1'.trans hx2
          have hsr : StepR (.agg (stepCells (stepS (wordsOf line)).1 iv)) (stepS (wordsOf line)).1 := ⟨iv, rfl, hiv⟩
          have a1 : ast 12 (.ptr H2.next 0) (.agg (stepCells (stepS (wordsOf line)).1 iv)) (H2.add (.cells step0)) = some (H2.add (.cells (stepCells (stepS (wordsOf line)).1 iv))) := by
            rw [ast12 (cs := stepCells (stepS (wordsOf line)).1 iv) (get_add_self _ _) rfl rfl (stepCells_one _ hiv.one), add_put]
          have e00 : [AV.int .i64 0, .int .i64 0, .str [], .str [], .str [], .int .i64 0, .int .i64 0, .int .i64 0, .int .i64 0, .nils, .int .i64 0, .int .i64 0] = step0 := rfl
          simp only [e00, abin_i_add, abin_i_sub, abin_i_mul, abin_i_eql, abin_i_neq, abin_i_lss, abin_i_leq, abin_i_gtr, abin_i_geq, abin_s_eql, abin_s_neq, bnd_some, bnd_none, branch_bool, gwant_bool, gwant_nothing, aguard_some, wantE_some, pickV_bool, nilck_ptr, nilck_elem, aoff_ptr, aoff_elem, aun_not, aun_neg, lenStr_str, lenSl_nils, lenSl_sl, lenSl_osl, aextract_tup, ld1uelem, idxStr_str, amin2uint, amax2uint, rangeStr_str, sliceStr_from, sliceStr_to, List.getElem?_cons_zero, List.getElem?_cons_succ, Option.map_some, Option.bind_some, Int.toNat_natCast, Int.toNat_zero, Int.le_refl, Bool.not_true, Bool.not_false, Bool.not_not, Bool.false_eq_true, if_true, if_false, decide_eq_true_eq, beq_self_eq_true, bool_ft, bool_tf, decide_true, decide_false, reduceCtorEq, cmpNil, cmpRes, boxCells, AV.known, AV.cells, Nat.zero_add, and_self, and_true, true_and, ite_self, forall_const, not_true_eq_false, not_false_eq_true, a1, ldN12 (get_add_self H2 (.cells (stepCells (stepS (wordsOf line)).1 iv))) rfl, buildSl_one 12 (.agg (stepCells (stepS (wordsOf line)).1 iv)) rfl rfl]
          have hg2 : IsGrow 12 id H0 v es (H2.add (.cells (stepCells (stepS (wordsOf line)).1 iv))) := hg1.mono (by have := hx2.next; simp; omega) (fun c hc => hx2.tok c hc)
          have hesl := hrel.1
          have hxs : IsSl 12 id (.sl .full 12 [AV.agg (stepCells (stepS (wordsOf line)).1 iv)]) [AV.agg (stepCells (stepS (wordsOf line)).1 iv)] := .inr ⟨.full, by simp⟩
          have hb1 : (2 * (es.length + [AV.agg (stepCells (stepS (wordsOf line)).1 iv)].length) + 1024) * 136 ≤ 281474976710656 := by simp only [List.length_cons, List.length_nil]; omega
          have hb2 : es.length + [AV.agg (stepCells (stepS (wordsOf line)).1 iv)].length ≤ 9223372036854775807 := by simp only [List.length_cons, List.length_nil]; omega
          have hone : (flat ([AV.agg (stepCells (stepS (wordsOf line)).1 iv)].map id)).all AV.one = true := flat_one fun x hx => by
            simp only [List.mem_singleton] at hx; subst hx; exact stepCells_one _ hiv.one
          refine IsGrow.app hg2 (hx2'.add _) hxs hb1 hb2 hone fun v' H3 hg3 hx3 _ _ => ?_
          simp only [r_hostlerlaw21uParse_p935, abin_i_add, abin_i_sub, abin_i_mul, abin_i_eql, abin_i_neq, abin_i_lss, abin_i_leq, abin_i_gtr, abin_i_geq, abin_s_eql, abin_s_neq, bnd_some, bnd_none, branch_bool, gwant_bool, gwant_nothing, aguard_some, wantE_some, pickV_bool, nilck_ptr, nilck_elem, aoff_ptr, aoff_elem, aun_not, aun_neg, lenStr_str, lenSl_nils, lenSl_sl, lenSl_osl, aextract_tup, ld1uelem, idxStr_str, amin2uint, amax2uint, rangeStr_str, sliceStr_from, sliceStr_to, List.getElem?_cons_zero, List.getElem?_cons_succ, Option.map_some, Option.bind_some, Int.toNat_natCast, Int.toNat_zero, Int.le_refl, Bool.not_true, Bool.not_false, Bool.not_not, Bool.false_eq_true, if_true, if_false, decide_eq_true_eq, beq_self_eq_true, bool_ft, bool_tf, decide_true, decide_false, reduceCtorEq, cmpNil, cmpRes, boxCells, AV.known, AV.cells, Nat.zero_add, and_self, and_true, true_and, ite_self, forall_const, not_true_eq_false, not_false_eq_true, isx]
          refine c_dParse_loop L hl hL r (i + 1) (done ++ [(stepS (wordsOf line)).1]) _ v' H3 hr' (by omega) (by simp; omega) (hrel.snoc hsr) hg3 hx3 (fun l hl H' v'' hx' hv => ?_) fun hn => ?_
          · exact hok ((stepS (wordsOf line)).1 :: l) (by rw [hl]; rfl) H' v'' hx' (by simpa using hv)
          · exact hno (by rw [hn]; rfl)
        · cases hs
      · rw [hsd] at hs
        split at hs
        · cases hs
        · rename_i hs2
          have hs3 : (stepS (wordsOf line)).2 = false := by simpa using hs2
          simp only [hs3, Bool.false_eq_true, if_false] at hno
          have a1 : ast 12 (.ptr H2.next 0) (.agg step0) (H2.add (.cells step0)) = some (H2.add (.cells step0)) := by
            rw [ast12 (cs := step0) (get_add_self _ _) rfl rfl rfl, add_put]
          have e00 : [AV.int .i64 0, .int .i64 0, .str [], .str [], .str [], .int .i64 0, .int .i64 0, .int .i64 0, .int .i64 0, .nils, .int .i64 0, .int .i64 0] = step0 := rfl
          simp only [e00, abin_i_add, abin_i_sub, abin_i_mul, abin_i_eql, abin_i_neq, abin_i_lss, abin_i_leq, abin_i_gtr, abin_i_geq, abin_s_eql, abin_s_neq, bnd_some, bnd_none, branch_bool, gwant_bool, gwant_nothing, aguard_some, wantE_some, pickV_bool, nilck_ptr, nilck_elem, aoff_ptr, aoff_elem, aun_not, aun_neg, lenStr_str, lenSl_nils, lenSl_sl, lenSl_osl, aextract_tup, ld1uelem, idxStr_str, amin2uint, amax2uint, rangeStr_str, sliceStr_from, sliceStr_to, List.getElem?_cons_zero, List.getElem?_cons_succ, Option.map_some, Option.bind_some, Int.toNat_natCast, Int.toNat_zero, Int.le_refl, Bool.not_true, Bool.not_false, Bool.not_not, Bool.false_eq_true, if_true, if_false, decide_eq_true_eq, beq_self_eq_true, bool_ft, bool_tf, decide_true, decide_false, reduceCtorEq, cmpNil, cmpRes, boxCells, AV.known, AV.cells, Nat.zero_add, and_self, and_true, true_and, ite_self, forall_const, not_true_eq_false, not_false_eq_true, a1]
          exact hno trivial _ ((hx1'.trans hx2).add _)
theorem c_dParse (text : Bs) (ht : text.length ≤ 900000) {H : AH} (hok : ∀ l, parseS text = some l → ∀ H' v', Ext H H' → IsSteps v' l → K (.tup [v', .bool true]) H') (hno : parseS text = none → ∀ H', Ext H H' → K (.tup [.nils, .bool false]) H') :
    r_hostlerlaw21uParse [.str text] H K := by
  simp only [r_hostlerlaw21uParse]
  refine c_lines text (by omega) fun v H1 L hx1 hlo hll hsl => ?_
  have hps := parse_lines hlo
  have hlen : L.length ≤ 900001 := by
    have hcnt : text.count 10 ≤ text.length := List.count_le_length
    have hl2 := splitB_length 10 text
    rcases hlo with h | h <;> rw [h] at hl2
    · omega
    · simp only [List.length_append] at hl2; omega
  simp only [hsl.len, abin_i_add, abin_i_sub, abin_i_mul, abin_i_eql, abin_i_neq, abin_i_lss, abin_i_leq, abin_i_gtr, abin_i_geq, abin_s_eql, abin_s_neq, bnd_some, bnd_none, branch_bool, gwant_bool, gwant_nothing, aguard_some, wantE_some, pickV_bool, nilck_ptr, nilck_elem, aoff_ptr, aoff_elem, aun_not, aun_neg, lenStr_str, lenSl_nils, lenSl_sl, lenSl_osl, aextract_tup, ld1uelem, idxStr_str, amin2uint, amax2uint, rangeStr_str, sliceStr_from, sliceStr_to, List.getElem?_cons_zero, List.getElem?_cons_succ, Option.map_some, Option.bind_some, Int.toNat_natCast, Int.toNat_zero, Int.le_refl, Bool.not_true, Bool.not_false, Bool.not_not, Bool.false_eq_true, if_true, if_false, decide_eq_true_eq, beq_self_eq_true, bool_ft, bool_tf, decide_true, decide_false, reduceCtorEq, cmpNil, cmpRes, boxCells, AV.known, AV.cells, Nat.zero_add, and_self, and_true, true_and, ite_self, forall_const, not_true_eq_false, not_false_eq_true]
  rcases hsl with ⟨rfl, rfl⟩ | ⟨g, rfl⟩
  · refine .fold ?_
    simp only [r_hostlerlaw21uParse_p116, abin_i_add, abin_i_sub, abin_i_mul, abin_i_eql, abin_i_neq, abin_i_lss, abin_i_leq, abin_i_gtr, abin_i_geq, abin_s_eql, abin_s_neq, bnd_some, bnd_none, branch_bool, gwant_bool, gwant_nothing, aguard_some, wantE_some, pickV_bool, nilck_ptr, nilck_elem, aoff_ptr, aoff_elem, aun_not, aun_neg, lenStr_str, lenSl_nils, lenSl_sl, lenSl_osl, aextract_tup, ld1uelem, idxStr_str, amin2uint, amax2uint, rangeStr_str, sliceStr_from, sliceStr_to, List.getElem?_cons_zero, List.getElem?_cons_succ, Option.map_some, Option.bind_some, Int.toNat_natCast, Int.toNat_zero, Int.le_refl, Bool.not_true, Bool.not_false, Bool.not_not, Bool.false_eq_true, if_true, if_false, decide_eq_true_eq, beq_self_eq_true, bool_ft, bool_tf, decide_true, decide_false, reduceCtorEq, cmpNil, cmpRes, boxCells, AV.known, AV.cells, Nat.zero_add, and_self, and_true, true_and, ite_self, forall_const, not_true_eq_false, not_false_eq_true, List.length_nil]
    exact hok [] (by rw [hps]; rfl) H1 .nils hx1 ⟨[], .inl ⟨rfl, rfl⟩, Rel2.nil _⟩
  · refine c_dParse_loop L (by omega) (fun l hl => by have := hll l hl; omega) L 0 [] [] .nils H1 rfl (by omega) (by simp) (Rel2.nil _) (.inl ⟨rfl, rfl⟩) (Ext.refl H1) (fun l hl H' v' hx' hv => hok l (by rw [hps]; exact hl) H' v' (hx1.trans hx') (by simpa using hv)) fun hn H' hx' => hno (by rw [hps]; exact hn) H' (hx1.trans hx')
-- steps that are alike
theorem IsSteps.len {v : AV} {l : List Step} (h : IsSteps v l) : lenSl v = some (.int .i64 l.length) := by
  obtain ⟨es, h1, h2⟩ := h
  rw [h1.len, h2.1]
theorem IsSteps.at_ {v : AV} {l : List Step} (h : IsSteps v l) {i : Nat} {s : Step} (hs : l[i]? = some s) : ∃ iv, idxA 12 v (.int .i64 i) = some (.elem (stepCells s iv) 0) ∧ IsItems iv s.msg.items := by
  obtain ⟨es, h1, h2⟩ := h
  obtain ⟨e, he, iv, rfl, hiv⟩ := h2.at_ hs
  rcases h1 with ⟨_, rfl⟩ | ⟨g, rfl⟩
  · simp at he
  · refine ⟨iv, ?_, hiv⟩
    have h3 : (0 : Int) ≤ (i : Int) := by omega
    have hgi : (es.map id)[i]? = some (.agg (stepCells s iv)) := by simpa using he
    simp only [idxA, h3, Int.toNat_natCast, hgi, if_true, AV.known, AV.cells]
    rfl
theorem c_SameSteps_loop (l : List Step) (hl : l.length ≤ 1000000000) (hs : ∀ s ∈ l, MsgSmall s.msg) {H0 : AH} {va vb : AV} (ha : IsSteps va l) (hb : IsSteps vb l) (h : ∀ H', Ext H0 H' → K (.bool true) H') :
    ∀ (r : List Step) (i : Nat) (H : AH), l.drop i = r → Ext H0 H → LoopP (r_hostlerlaw21uSameSteps_p116 K) [va, vb, .int .i64 l.length, .int .i64 i] H
  | [], i, H, hr, hx => by
    refine .fold ?_
    have hi : l.length ≤ i := by simpa using hr
    have hlt : ¬ ((i : Int) < (l.length : Int)) := by omega
    simp only [r_hostlerlaw21uSameSteps_p116, abin_i_add, abin_i_sub, abin_i_mul, abin_i_eql, abin_i_neq, abin_i_lss, abin_i_leq, abin_i_gtr, abin_i_geq, abin_s_eql, abin_s_neq, bnd_some, bnd_none, branch_bool, gwant_bool, gwant_nothing, aguard_some, wantE_some, pickV_bool, nilck_ptr, nilck_elem, aoff_ptr, aoff_elem, aun_not, aun_neg, lenStr_str, lenSl_nils, lenSl_sl, lenSl_osl, aextract_tup, ld1uelem, idxStr_str, amin2uint, amax2uint, rangeStr_str, sliceStr_from, sliceStr_to, List.getElem?_cons_zero, List.getElem?_cons_succ, Option.map_some, Option.bind_some, Int.toNat_natCast, Int.toNat_zero, Int.le_refl, Bool.not_true, Bool.not_false, Bool.not_not, Bool.false_eq_true, if_true, if_false, decide_eq_true_eq, beq_self_eq_true, bool_ft, bool_tf, decide_true, decide_false, reduceCtorEq, cmpNil, cmpRes, boxCells, AV.known, AV.cells, Nat.zero_add, and_self, and_true, true_and, ite_self, forall_const, not_true_eq_false, not_false_eq_true, hlt]
    exact h H hx
  | s :: r, i, H, hr, hx => by
    refine .fold ?_
    obtain ⟨hxx, hlt, hr', ht⟩ := drop_at hr
    have h1 : ((i : Int) < (l.length : Int)) := by omega
    obtain ⟨iv, ea, hiv⟩ := ha.at_ hxx
    obtain ⟨jv, eb, hjv⟩ := hb.at_ hxx
    have hld : ∀ iv, ldN 12 (.elem (stepCells s iv) 0) H = some (.agg (stepCells s iv)) := fun _ => rfl
    have hms := hs s (List.mem_of_getElem? hxx)
    simp only [r_hostlerlaw21uSameSteps_p116, abin_i_add, abin_i_sub, abin_i_mul, abin_i_eql, abin_i_neq, abin_i_lss, abin_i_leq, abin_i_gtr, abin_i_geq, abin_s_eql, abin_s_neq, bnd_some, bnd_none, branch_bool, gwant_bool, gwant_nothing, aguard_some, wantE_some, pickV_bool, nilck_ptr, nilck_elem, aoff_ptr, aoff_elem, aun_not, aun_neg, lenStr_str, lenSl_nils, lenSl_sl, lenSl_osl, aextract_tup, ld1uelem, idxStr_str, amin2uint, amax2uint, rangeStr_str, sliceStr_from, sliceStr_to, List.getElem?_cons_zero, List.getElem?_cons_succ, Option.map_some, Option.bind_some, Int.toNat_natCast, Int.toNat_zero, Int.le_refl, Bool.not_true, Bool.not_false, Bool.not_not, Bool.false_eq_true, if_true, if_false, decide_eq_true_eq, beq_self_eq_true, bool_ft, bool_tf, decide_true, decide_false, reduceCtorEq, cmpNil, cmpRes, boxCells, AV.known, AV.cells, Nat.zero_add, and_self, and_true, true_and, ite_self, forall_const, not_true_eq_false, not_false_eq_true, h1, ea, eb, hld]
    refine c_SameStep s s hms hms hiv hjv fun H1 hx1 => ?_
    simp only [abin_i_add, abin_i_sub, abin_i_mul, abin_i_eql, abin_i_neq, abin_i_lss, abin_i_leq, abin_i_gtr, abin_i_geq, abin_s_eql, abin_s_neq, bnd_some, bnd_none, branch_bool, gwant_bool, gwant_nothing, aguard_some, wantE_some, pickV_bool, nilck_ptr, nilck_elem, aoff_ptr, aoff_elem, aun_not, aun_neg, lenStr_str, lenSl_nils, lenSl_sl, lenSl_osl, aextract_tup, ld1uelem, idxStr_str, amin2uint, amax2uint, rangeStr_str, sliceStr_from, sliceStr_to, List.getElem?_cons_zero, List.getElem?_cons_succ, Option.map_some, Option.bind_some, Int.toNat_natCast, Int.toNat_zero, Int.le_refl, Bool.not_true, Bool.not_false, Bool.not_not, Bool.false_eq_true, if_true, if_false, decide_eq_true_eq, beq_self_eq_true, bool_ft, bool_tf, decide_true, decide_false, reduceCtorEq, cmpNil, cmpRes, boxCells, AV.known, AV.cells, Nat.zero_add, and_self, and_true, true_and, ite_self, forall_const, not_true_eq_false, not_false_eq_true, i_succ (show i < 9223372036854775807 by omega)]
    exact c_SameSteps_loop l hl hs ha hb h r (i + 1) H1 hr' (hx.trans hx1)
theorem c_SameSteps (l : List Step) (hl : l.length ≤ 1000000000) (hs : ∀ s ∈ l, MsgSmall s.msg) {H : AH} {va vb : AV} (ha : IsSteps va l) (hb : IsSteps vb l) (h : ∀ H', Ext H H' → K (.bool true) H') : r_hostlerlaw21uSameSteps [va, vb] H K := by
  have e : ((l.length : Int) != (l.length : Int)) = false := by simp
  simp only [r_hostlerlaw21uSameSteps, ha.len, hb.len, abin_i_add, abin_i_sub, abin_i_mul, abin_i_eql, abin_i_neq, abin_i_lss, abin_i_leq, abin_i_gtr, abin_i_geq, abin_s_eql, abin_s_neq, bnd_some, bnd_none, branch_bool, gwant_bool, gwant_nothing, aguard_some, wantE_some, pickV_bool, nilck_ptr, nilck_elem, aoff_ptr, aoff_elem, aun_not, aun_neg, lenStr_str, lenSl_nils, lenSl_sl, lenSl_osl, aextract_tup, ld1uelem, idxStr_str, amin2uint, amax2uint, rangeStr_str, sliceStr_from, sliceStr_to, List.getElem?_cons_zero, List.getElem?_cons_succ, Option.map_some, Option.bind_some, Int.toNat_natCast, Int.toNat_zero, Int.le_refl, Bool.not_true, Bool.not_false, Bool.not_not, Bool.false_eq_true, if_true, if_false, decide_eq_true_eq, beq_self_eq_true, bool_ft, bool_tf, decide_true, decide_false, reduceCtorEq, cmpNil, cmpRes, boxCells, AV.known, AV.cells, Nat.zero_add, and_self, and_true, true_and, ite_self, forall_const, not_true_eq_false, not_false_eq_true, e]
  exact c_SameSteps_loop l hl hs ha hb h l 0 H rfl (Ext.refl H)
end
end Go.Va
