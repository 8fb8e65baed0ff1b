/-
  Contracts: a number of a text, a name.
-/
import Derived.Test.YtfldcobcnlgapaaDoorCtDel
set_option linter.unusedVariables false
set_option linter.unusedSimpArgs false
set_option maxRecDepth 100000
namespace Go.Va
def isDig (c : UInt8) : Bool := decide (48 ≤ c.toNat ∧ c.toNat ≤ 57)
def numStep (n : Nat) (c : UInt8) : Nat := 10 * n + (c.toNat - 48)
def numOf (s : Bs) : Nat := s.foldl numStep 0
/-- the number that a text is -/
def number (s : Bs) : Option Nat := if s ≠ [] ∧ s.length ≤ 9 ∧ s.all isDig = true ∧ (s.head? ≠ some 48 ∨ s = [48]) then some (numOf s) else none

theorem dropWhile_eq_nil {α : Type} (p : α → Bool) : ∀ (l : List α), l.dropWhile p = [] ↔ ∀ x ∈ l, p x = true
  | [] => by simp
  | a :: l => by
    rw [List.dropWhile_cons]
    split
    · rename_i h; rw [dropWhile_eq_nil p l]; simp [h]
    · rename_i h; simp [h]
theorem dropWhile_last {α : Type} (p : α → Bool) : ∀ (l : List α), (∃ x ∈ l, p x = false) → ∃ x b, l.dropWhile p = x :: b ∧ p x = false
  | [], h => by simp at h
  | a :: l, h => by
    rw [List.dropWhile_cons]
    split
    · rename_i ha
      refine dropWhile_last p l ?_
      obtain ⟨x, hx, hp⟩ := h
      rcases List.mem_cons.1 hx with rfl | hx
      · rw [ha] at hp; cases hp
      · exact ⟨x, hx, hp⟩
    · rename_i ha; exact ⟨a, l, rfl, by simpa using ha⟩
theorem trim_nil (set s : Bs) : trimL set (trimR set s) = [] ↔ ∀ c ∈ s, set.contains c = true := by
  constructor
  · intro h c hc
    cases hq : set.contains c with
    | true => rfl
    | false =>
      obtain ⟨x, b, e, hx⟩ := dropWhile_last set.contains s.reverse ⟨c, by simpa using hc, hq⟩
      have e2 : trimR set s = (x :: b).reverse := by simp only [trimR, e]
      rw [trimL, dropWhile_eq_nil] at h
      have := h x (by rw [e2]; simp)
      rw [hx] at this; cases this
  · intro h
    have : trimR set s = [] := by
      simp only [trimR, List.reverse_eq_nil_iff, dropWhile_eq_nil]
      intro x hx; exact h x (by simpa using hx)
    rw [this]; rfl
def digitSet : Bs := [48, 49, 50, 51, 52, 53, 54, 55, 56, 57]
theorem digitSet_has (c : UInt8) : digitSet.contains c = isDig c := by
  have : ∀ c : Fin 256, digitSet.contains (UInt8.ofFin c) = isDig (UInt8.ofFin c) := by decide
  exact this c.toFin
def nameSet : Bs := [97, 98, 99, 100, 101, 102, 103, 104, 105, 106, 107, 108, 109, 110, 111, 112, 113, 114, 115, 116, 117, 118, 119, 120, 121, 122, 48, 49, 50, 51, 52, 53, 54, 55, 56, 57]
def isNm (c : UInt8) : Bool := decide (97 ≤ c.toNat ∧ c.toNat ≤ 122 ∨ 48 ≤ c.toNat ∧ c.toNat ≤ 57)
theorem nameSet_has (c : UInt8) : nameSet.contains c = isNm c := by
  have : ∀ c : Fin 256, nameSet.contains (UInt8.ofFin c) = isNm (UInt8.ofFin c) := by decide
  exact this c.toFin
theorem trim_digits (s : Bs) : (trimL digitSet (trimR digitSet s) == []) = s.all isDig := by
  rw [Bool.eq_iff_iff, beq_iff_eq, trim_nil, List.all_eq_true]
  simp only [digitSet_has]
theorem trim_names (s : Bs) : (trimL nameSet (trimR nameSet s) == []) = s.all isNm := by
  rw [Bool.eq_iff_iff, beq_iff_eq, trim_nil, List.all_eq_true]
  simp only [nameSet_has]

theorem numOf_lt : ∀ (s : Bs) (n : Nat), s.all isDig = true → s.foldl numStep n < (n + 1) * 10 ^ s.length
  | [], n, _ => by simp
  | c :: s, n, h => by
    simp only [List.all_cons, Bool.and_eq_true, isDig, decide_eq_true_eq] at h
    have := numOf_lt s (numStep n c) h.2
    simp only [List.foldl_cons, List.length_cons, Nat.pow_succ]
    refine Nat.lt_of_lt_of_le this ?_
    have h2 : numStep n c + 1 ≤ (n + 1) * 10 := by unfold numStep; omega
    calc (numStep n c + 1) * 10 ^ s.length ≤ ((n + 1) * 10) * 10 ^ s.length := Nat.mul_le_mul_right _ h2
      _ = (n + 1) * (10 ^ s.length * 10) := by rw [Nat.mul_assoc, Nat.mul_comm 10]
theorem numOf_foldl_ge (s : Bs) (n : Nat) : n ≤ s.foldl numStep n := by
  induction s generalizing n with
  | nil => simp
  | cons c s ih => exact Nat.le_trans (by unfold numStep; omega) (ih (numStep n c))
theorem c_Atoi_loop (s : Bs) (hd : s.all isDig = true) (hl : s.length ≤ 18) {c0 : UInt8} (h0 : s[0]? = some c0) (hc0 : c0.toNat ≠ 45) {H : AH} {K : AV → AH → Prop} (h : K (.tup [.int .i64 (numOf s : Nat), .nili]) H) :
    ∀ (r : Bs) (i : Nat) (n : Nat), s.drop i = r → r.foldl numStep n = numOf s → numOf s < 10 ^ 18 →
    LoopP (r_i_strconv_Atoi_p7540 K) [.str s, .int .i64 n, .sl .stuck 1 (bytesOf s), .int .i64 s.length, .int .i64 i] H
  | [], i, n, hr, hn, hb => by
    refine .fold ?_
    have hi : s.length ≤ i := by simpa using hr
    have hlt : ¬ ((i : Int) < (s.length : Int)) := by omega
    have hn' : n = numOf s := by simpa using hn
    have h45 : ((c0.toNat : Int) == 45) = false := by simp; omega
    subst hn'
    simpa [r_i_strconv_Atoi_p7540, hlt, h0, h45, r_i_strconv_Atoi_p1887] using h
  | c :: r, i, n, hr, hn, hb => by
    refine .fold ?_
    have hc : s[i]? = some c := by
      have := congrArg (fun l => l[0]?) hr
      simpa using this
    have hlt : i < s.length := (List.getElem?_eq_some_iff.1 hc).1
    have hr' : s.drop (i + 1) = r := by rw [← List.drop_drop, hr]; rfl
    have hcd : isDig c = true := List.all_eq_true.1 hd c (List.mem_of_getElem? hc)
    simp only [isDig, decide_eq_true_eq] at hcd
    have h1 : ((i : Int) < (s.length : Int)) := by omega
    have h2 : (0 : Int) ≤ (i : Int) := by omega
    have hgi : (bytesOf s)[i]? = some (.int .u8 c.toNat) := by simp [bytesOf, hc]
    have hw1 : IntKind.u8.wrap ((c.toNat : Int) - 48) = ((c.toNat - 48 : Nat) : Int) := by
      simp [IntKind.wrap, IntKind.bits, IntKind.signed]; omega
    have hgt : ¬ (((c.toNat - 48 : Nat) : Int) > 9) := by omega
    have hnn : numStep n c ≤ numOf s := by rw [← hn]; exact numOf_foldl_ge r _
    have hns : numStep n c = 10 * n + (c.toNat - 48) := rfl
    have hw2 : IntKind.i64.wrap ((n : Int) * 10) = ((10 * n : Nat) : Int) := by rw [wrap_i64 (by omega) (by omega)]; omega
    have hw3 : IntKind.i64.wrap (((10 * n : Nat) : Int) + ((c.toNat - 48 : Nat) : Int)) = (numStep n c : Nat) := by rw [wrap_i64 (by omega) (by omega)]; omega
    have hw4 : IntKind.i64.wrap ((i : Int) + 1) = ((i + 1 : Nat) : Int) := by rw [wrap_i64 (by omega) (by omega)]; omega
    have hw5 : IntKind.i64.wrap ((c.toNat - 48 : Nat) : Int) = ((c.toNat - 48 : Nat) : Int) := wrap_i64 (by omega) (by omega)
    simp only [r_i_strconv_Atoi_p7540, abin_i_lss, bnd_some, branch_bool, decide_eq_true_eq, h1, if_true, idxA, h2, and_self, Int.toNat_natCast, hgi, Option.bind_some, AV.known, AV.cells, ld1uelem, List.getElem?_cons_zero, abin_i_sub, hw1, abin_i_gtr, hgt, if_false, abin_i_mul, hw2, convR, hw5, abin_i_add, hw3, hw4]
    exact c_Atoi_loop s hd hl h0 hc0 h r (i + 1) (numStep n c) hr' (by simpa using hn) hb
theorem c_Atoi (s : Bs) (hd : s.all isDig = true) (hne : s ≠ []) (hl : s.length ≤ 18) {H : AH} {K : AV → AH → Prop} (h : K (.tup [.int .i64 (numOf s : Nat), .nili]) H) : r_strconv_Atoi [.str s] H K := by
  obtain ⟨c, t, rfl⟩ : ∃ c t, s = c :: t := by cases s with
    | nil => exact absurd rfl hne
    | cons c t => exact ⟨c, t, rfl⟩
  have hcd : isDig c = true := by simp only [List.all_cons, Bool.and_eq_true] at hd; exact hd.1
  simp only [isDig, decide_eq_true_eq] at hcd
  have hlt : numOf (c :: t) < 10 ^ 18 := by
    have := numOf_lt (c :: t) 0 hd
    refine Nat.lt_of_lt_of_le this ?_
    rw [Nat.zero_add, Nat.one_mul]
    exact Nat.pow_le_pow_right (by omega) hl
  have h1 : ((0 : Int) < ((c :: t).length : Int)) := by simp only [List.length_cons]; omega
  have h2 : (((c :: t).length : Int) < 19) := by omega
  have h45 : ((c.toNat : Int) == 45) = false := by simp; omega
  have h43 : ((c.toNat : Int) == 43) = false := by simp; omega
  have hloop := fun (K' : AV → AH → Prop) hk => c_Atoi_loop (c :: t) hd hl (c0 := c) rfl (by omega) (H := H) (K := K') hk (c :: t) 0 0 rfl rfl hlt
  simp only [r_strconv_Atoi, r_i_strconv_Atoi, lenStr_str, bnd_some, gwant_bool, aguard_some, Bool.false_eq_true, if_false, beq_self_eq_true, if_true, pickV_bool, abin_i_lss, h1, h2, decide_true, branch_bool, idxStr_str, Int.toNat_zero, List.getElem?_cons_zero, Int.le_refl, Option.map_some, abin_i_eql, h45, h43,
    reduceCtorEq, show (false == true) = false from rfl, r_i_strconv_Atoi_p235, strBytes, lenSl_sl, gwant_nothing]
  have hlb : (bytesOf (c :: t)).length = (c :: t).length := by simp [bytesOf]
  rw [hlb]
  refine hloop _ ?_
  simpa [cmpNil, cmpRes] using h
theorem c_script_Number (s : Bs) (hs : s.length ≤ 9223372036854775807) {H : AH} {K : AV → AH → Prop} (h : ∀ H', Ext H H' → K (.tup [.int .i64 ((number s).getD 0 : Nat), .bool (number s).isSome]) H') : r_script_Number [.str s] H K := by
  have no : ∀ H', Ext H H' → number s = none → K (.tup [.int .i64 0, .bool false]) H' := fun H' hx hn => by
    have := h H' hx
    rw [hn] at this; exact this
  simp only [r_script_Number, abin_s_eql, bnd_some, gwant_bool, aguard_some, lenStr_str, abin_i_gtr, pickV_bool]
  by_cases h0 : s = []
  · have := no H (Ext.refl H) (by simp [number, h0])
    subst h0
    simpa using this
  · have e0 : (s == []) = false := by simpa using h0
    simp only [e0, beq_self_eq_true, if_true, Bool.false_eq_true, if_false]
    by_cases h9 : 9 < s.length
    · have e9 : decide ((s.length : Int) > 9) = true := by simp; omega
      have := no H (Ext.refl H) (by simp only [number]; rw [if_neg (by omega)])
      simpa [e9] using this
    · have e9 : decide ((s.length : Int) > 9) = false := by simp; omega
      simp only [e9, beq_self_eq_true, if_true]
      refine c_strings_Trim s digitSet (by decide) (by decide) (by decide) hs fun H1 hx1 => ?_
      simp only [abin_i_add, abin_i_sub, abin_i_mul, abin_i_eql, abin_i_neq, abin_i_lss, abin_i_leq, abin_i_gtr, abin_i_geq, abin_s_eql, abin_s_neq, bnd_some, bnd_none, branch_bool, gwant_bool, gwant_nothing, aguard_some, wantE_some, pickV_bool, nilck_ptr, nilck_elem, aoff_ptr, aoff_elem, aun_not, aun_neg, lenStr_str, lenSl_nils, lenSl_sl, lenSl_osl, aextract_tup, ld1uelem, idxStr_str, amin2uint, amax2uint, rangeStr_str, sliceStr_from, sliceStr_to, List.getElem?_cons_zero, List.getElem?_cons_succ, Option.map_some, Option.bind_some, Int.toNat_natCast, Int.toNat_zero, Int.le_refl, Bool.not_true, Bool.not_false, Bool.not_not, Bool.false_eq_true, if_true, if_false, decide_eq_true_eq, beq_self_eq_true, bool_ft, bool_tf, decide_true, decide_false, reduceCtorEq, cmpNil, cmpRes, boxCells, AV.known, AV.cells, Nat.zero_add, and_self, and_true, true_and, ite_self, forall_const, not_true_eq_false, not_false_eq_true, trim_digits]
      by_cases hd : s.all isDig = true
      · obtain ⟨c, t, rfl⟩ : ∃ c t, s = c :: t := by cases s with
          | nil => exact absurd rfl h0
          | cons c t => exact ⟨c, t, rfl⟩
        have hcd : isDig c = true := by simp only [List.all_cons, Bool.and_eq_true] at hd; exact hd.1
        have at_ := fun (K' : AV → AH → Prop) hk => c_Atoi (c :: t) hd h0 (by omega) (H := H1) (K := K') hk
        simp only [abin_i_add, abin_i_sub, abin_i_mul, abin_i_eql, abin_i_neq, abin_i_lss, abin_i_leq, abin_i_gtr, abin_i_geq, abin_s_eql, abin_s_neq, bnd_some, bnd_none, branch_bool, gwant_bool, gwant_nothing, aguard_some, wantE_some, pickV_bool, nilck_ptr, nilck_elem, aoff_ptr, aoff_elem, aun_not, aun_neg, lenStr_str, lenSl_nils, lenSl_sl, lenSl_osl, aextract_tup, ld1uelem, idxStr_str, amin2uint, amax2uint, rangeStr_str, sliceStr_from, sliceStr_to, List.getElem?_cons_zero, List.getElem?_cons_succ, Option.map_some, Option.bind_some, Int.toNat_natCast, Int.toNat_zero, Int.le_refl, Bool.not_true, Bool.not_false, Bool.not_not, Bool.false_eq_true, if_true, if_false, decide_eq_true_eq, beq_self_eq_true, bool_ft, bool_tf, decide_true, decide_false, reduceCtorEq, cmpNil, cmpRes, boxCells, AV.known, AV.cells, Nat.zero_add, and_self, and_true, true_and, ite_self, forall_const, not_true_eq_false, not_false_eq_true, hd]
        by_cases h48 : c = 48
        · subst h48
          have e48 : (((48 : UInt8).toNat : Int) == 48) = true := rfl
          simp only [abin_i_add, abin_i_sub, abin_i_mul, abin_i_eql, abin_i_neq, abin_i_lss, abin_i_leq, abin_i_gtr, abin_i_geq, abin_s_eql, abin_s_neq, bnd_some, bnd_none, branch_bool, gwant_bool, gwant_nothing, aguard_some, wantE_some, pickV_bool, nilck_ptr, nilck_elem, aoff_ptr, aoff_elem, aun_not, aun_neg, lenStr_str, lenSl_nils, lenSl_sl, lenSl_osl, aextract_tup, ld1uelem, idxStr_str, amin2uint, amax2uint, rangeStr_str, sliceStr_from, sliceStr_to, List.getElem?_cons_zero, List.getElem?_cons_succ, Option.map_some, Option.bind_some, Int.toNat_natCast, Int.toNat_zero, Int.le_refl, Bool.not_true, Bool.not_false, Bool.not_not, Bool.false_eq_true, if_true, if_false, decide_eq_true_eq, beq_self_eq_true, bool_ft, bool_tf, decide_true, decide_false, reduceCtorEq, cmpNil, cmpRes, boxCells, AV.known, AV.cells, Nat.zero_add, and_self, and_true, true_and, ite_self, forall_const, not_true_eq_false, not_false_eq_true, e48]
          by_cases ht : t = []
          · subst ht
            have hn : number [48] = some (numOf [48]) := by decide
            have := h H1 hx1
            rw [hn] at this
            simp only [abin_i_add, abin_i_sub, abin_i_mul, abin_i_eql, abin_i_neq, abin_i_lss, abin_i_leq, abin_i_gtr, abin_i_geq, abin_s_eql, abin_s_neq, bnd_some, bnd_none, branch_bool, gwant_bool, gwant_nothing, aguard_some, wantE_some, pickV_bool, nilck_ptr, nilck_elem, aoff_ptr, aoff_elem, aun_not, aun_neg, lenStr_str, lenSl_nils, lenSl_sl, lenSl_osl, aextract_tup, ld1uelem, idxStr_str, amin2uint, amax2uint, rangeStr_str, sliceStr_from, sliceStr_to, List.getElem?_cons_zero, List.getElem?_cons_succ, Option.map_some, Option.bind_some, Int.toNat_natCast, Int.toNat_zero, Int.le_refl, Bool.not_true, Bool.not_false, Bool.not_not, Bool.false_eq_true, if_true, if_false, decide_eq_true_eq, beq_self_eq_true, bool_ft, bool_tf, decide_true, decide_false, reduceCtorEq, cmpNil, cmpRes, boxCells, AV.known, AV.cells, Nat.zero_add, and_self, and_true, true_and, ite_self, forall_const, not_true_eq_false, not_false_eq_true]
            refine at_ _ ?_
            simpa [cmpNil, cmpRes] using this
          · have e1 : (((48 : UInt8) :: t) == [48]) = false := by simpa using ht
            have hn : number ((48 : UInt8) :: t) = none := by
              simp only [number]
              rw [if_neg]
              rintro ⟨_, _, _, h5 | h5⟩
              · exact h5 rfl
              · simp at h5; exact ht h5
            simp only [abin_i_add, abin_i_sub, abin_i_mul, abin_i_eql, abin_i_neq, abin_i_lss, abin_i_leq, abin_i_gtr, abin_i_geq, abin_s_eql, abin_s_neq, bnd_some, bnd_none, branch_bool, gwant_bool, gwant_nothing, aguard_some, wantE_some, pickV_bool, nilck_ptr, nilck_elem, aoff_ptr, aoff_elem, aun_not, aun_neg, lenStr_str, lenSl_nils, lenSl_sl, lenSl_osl, aextract_tup, ld1uelem, idxStr_str, amin2uint, amax2uint, rangeStr_str, sliceStr_from, sliceStr_to, List.getElem?_cons_zero, List.getElem?_cons_succ, Option.map_some, Option.bind_some, Int.toNat_natCast, Int.toNat_zero, Int.le_refl, Bool.not_true, Bool.not_false, Bool.not_not, Bool.false_eq_true, if_true, if_false, decide_eq_true_eq, beq_self_eq_true, bool_ft, bool_tf, decide_true, decide_false, reduceCtorEq, cmpNil, cmpRes, boxCells, AV.known, AV.cells, Nat.zero_add, and_self, and_true, true_and, ite_self, forall_const, not_true_eq_false, not_false_eq_true, e1]
            exact no H1 hx1 hn
        · have e48 : ((c.toNat : Int) == 48) = false := by
            simp only [beq_eq_false_iff_ne, ne_eq]
            intro e
            have e' : c.toNat = (48 : UInt8).toNat := by have : (48 : UInt8).toNat = 48 := rfl
                                                         omega
            exact h48 (UInt8.toNat_inj.1 e')
          have hn : number (c :: t) = some (numOf (c :: t)) := by
            simp only [number]
            rw [if_pos ⟨h0, by omega, hd, .inl (by simpa using h48)⟩]
          have := h H1 hx1
          rw [hn] at this
          simp only [abin_i_add, abin_i_sub, abin_i_mul, abin_i_eql, abin_i_neq, abin_i_lss, abin_i_leq, abin_i_gtr, abin_i_geq, abin_s_eql, abin_s_neq, bnd_some, bnd_none, branch_bool, gwant_bool, gwant_nothing, aguard_some, wantE_some, pickV_bool, nilck_ptr, nilck_elem, aoff_ptr, aoff_elem, aun_not, aun_neg, lenStr_str, lenSl_nils, lenSl_sl, lenSl_osl, aextract_tup, ld1uelem, idxStr_str, amin2uint, amax2uint, rangeStr_str, sliceStr_from, sliceStr_to, List.getElem?_cons_zero, List.getElem?_cons_succ, Option.map_some, Option.bind_some, Int.toNat_natCast, Int.toNat_zero, Int.le_refl, Bool.not_true, Bool.not_false, Bool.not_not, Bool.false_eq_true, if_true, if_false, decide_eq_true_eq, beq_self_eq_true, bool_ft, bool_tf, decide_true, decide_false, reduceCtorEq, cmpNil, cmpRes, boxCells, AV.known, AV.cells, Nat.zero_add, and_self, and_true, true_and, ite_self, forall_const, not_true_eq_false, not_false_eq_true, e48]
          refine at_ _ ?_
          simpa [cmpNil, cmpRes] using this
      · have hn : number s = none := by
          simp only [number]
          rw [if_neg]
          rintro ⟨_, _, h5, _⟩; exact hd h5
        have hd' : s.all isDig = false := by simpa using hd
        have := no H1 hx1 hn
        simpa only [abin_i_add, abin_i_sub, abin_i_mul, abin_i_eql, abin_i_neq, abin_i_lss, abin_i_leq, abin_i_gtr, abin_i_geq, abin_s_eql, abin_s_neq, bnd_some, bnd_none, branch_bool, gwant_bool, gwant_nothing, aguard_some, wantE_some, pickV_bool, nilck_ptr, nilck_elem, aoff_ptr, aoff_elem, aun_not, aun_neg, lenStr_str, lenSl_nils, lenSl_sl, lenSl_osl, aextract_tup, ld1uelem, idxStr_str, amin2uint, amax2uint, rangeStr_str, sliceStr_from, sliceStr_to, List.getElem?_cons_zero, List.getElem?_cons_succ, Option.map_some, Option.bind_some, Int.toNat_natCast, Int.toNat_zero, Int.le_refl, Bool.not_true, Bool.not_false, Bool.not_not, Bool.false_eq_true, if_true, if_false, decide_eq_true_eq, beq_self_eq_true, bool_ft, bool_tf, decide_true, decide_false, reduceCtorEq, cmpNil, cmpRes, boxCells, AV.known, AV.cells, Nat.zero_add, and_self, and_true, true_and, ite_self, forall_const, not_true_eq_false, not_false_eq_true, hd'] using this
theorem c_name_Right (s : Bs) (hs : s.length ≤ 9223372036854775807) {H : AH} {K : AV → AH → Prop} (h : ∀ H', Ext H H' → K (.bool (s != [] && decide (s.length ≤ 8) && s.all isNm)) H') : r_name_Right [.str s] H K := by
  simp only [r_name_Right, abin_s_neq, bnd_some, gwant_bool, aguard_some, lenStr_str, abin_i_leq, pickV_bool]
  by_cases h0 : s = []
  · have := h H (Ext.refl H)
    subst h0
    simpa using this
  · have e0 : (s == []) = false := by simpa using h0
    simp only [e0, Bool.not_false, beq_self_eq_true, if_true]
    by_cases h8 : s.length ≤ 8
    · have e8 : decide ((s.length : Int) ≤ 8) = true := by simp; omega
      simp only [e8, beq_self_eq_true, if_true]
      refine c_strings_Trim s nameSet (by decide) (by decide) (by decide) hs fun H1 hx1 => ?_
      have := h H1 hx1
      have h0' : (s != []) = true := by simpa using h0
      simp only [h0', h8, abin_i_add, abin_i_sub, abin_i_mul, abin_i_eql, abin_i_neq, abin_i_lss, abin_i_leq, abin_i_gtr, abin_i_geq, abin_s_eql, abin_s_neq, bnd_some, bnd_none, branch_bool, gwant_bool, gwant_nothing, aguard_some, wantE_some, pickV_bool, nilck_ptr, nilck_elem, aoff_ptr, aoff_elem, aun_not, aun_neg, lenStr_str, lenSl_nils, lenSl_sl, lenSl_osl, aextract_tup, ld1uelem, idxStr_str, amin2uint, amax2uint, rangeStr_str, sliceStr_from, sliceStr_to, List.getElem?_cons_zero, List.getElem?_cons_succ, Option.map_some, Option.bind_some, Int.toNat_natCast, Int.toNat_zero, Int.le_refl, Bool.not_true, Bool.not_false, Bool.not_not, Bool.false_eq_true, if_true, if_false, decide_eq_true_eq, beq_self_eq_true, bool_ft, bool_tf, decide_true, decide_false, reduceCtorEq, cmpNil, cmpRes, boxCells, AV.known, AV.cells, Nat.zero_add, and_self, and_true, true_and, ite_self, forall_const, not_true_eq_false, not_false_eq_true, Bool.true_and] at this
      simpa only [abin_i_add, abin_i_sub, abin_i_mul, abin_i_eql, abin_i_neq, abin_i_lss, abin_i_leq, abin_i_gtr, abin_i_geq, abin_s_eql, abin_s_neq, bnd_some, bnd_none, branch_bool, gwant_bool, gwant_nothing, aguard_some, wantE_some, pickV_bool, nilck_ptr, nilck_elem, aoff_ptr, aoff_elem, aun_not, aun_neg, lenStr_str, lenSl_nils, lenSl_sl, lenSl_osl, aextract_tup, ld1uelem, idxStr_str, amin2uint, amax2uint, rangeStr_str, sliceStr_from, sliceStr_to, List.getElem?_cons_zero, List.getElem?_cons_succ, Option.map_some, Option.bind_some, Int.toNat_natCast, Int.toNat_zero, Int.le_refl, Bool.not_true, Bool.not_false, Bool.not_not, Bool.false_eq_true, if_true, if_false, decide_eq_true_eq, beq_self_eq_true, bool_ft, bool_tf, decide_true, decide_false, reduceCtorEq, cmpNil, cmpRes, boxCells, AV.known, AV.cells, Nat.zero_add, and_self, and_true, true_and, ite_self, forall_const, not_true_eq_false, not_false_eq_true, trim_names] using this
    · have e8 : decide ((s.length : Int) ≤ 8) = false := by simp; omega
      have := h H (Ext.refl H)
      simpa [e8, h8] using this
end Go.Va
