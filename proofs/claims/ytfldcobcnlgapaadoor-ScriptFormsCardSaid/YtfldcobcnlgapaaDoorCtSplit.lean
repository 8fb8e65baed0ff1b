/-
  Contracts of the library's functions: a text in parts; what is left of a list.
-/
import Derived.Test.YtfldcobcnlgapaaDoorCtLib
set_option linter.unusedVariables false
set_option linter.unusedSimpArgs false
set_option maxRecDepth 100000
namespace Go.Va
/-- a text in parts, cut at each sign c -/
def splitB (c : UInt8) : Bs → List Bs
  | [] => [[]]
  | d :: s => if d = c then [] :: splitB c s else match splitB c s with
    | [] => [[d]]
    | w :: ws => (d :: w) :: ws
theorem splitB_ne (c : UInt8) : ∀ s, splitB c s ≠ []
  | [] => by simp [splitB]
  | d :: s => by
    unfold splitB
    split
    · simp
    · split <;> simp
theorem splitB_none (c : UInt8) : ∀ s : Bs, c ∉ s → splitB c s = [s]
  | [], _ => rfl
  | d :: s, h => by
    simp only [List.mem_cons, not_or] at h
    unfold splitB
    rw [if_neg (Ne.symm h.1), splitB_none c s h.2]
theorem splitB_some (c : UInt8) : ∀ (a b : Bs), c ∉ a → splitB c (a ++ c :: b) = a :: splitB c b
  | [], b, _ => by simp [splitB]
  | d :: a, b, h => by
    simp only [List.mem_cons, not_or] at h
    show splitB c (d :: (a ++ c :: b)) = _
    rw [splitB, if_neg (Ne.symm h.1), splitB_some c a b h.2]
theorem splitB_length (c : UInt8) : ∀ s : Bs, (splitB c s).length = s.count c + 1
  | [] => rfl
  | d :: s => by
    have ih := splitB_length c s
    unfold splitB
    split
    · rename_i e; subst e; simp [ih]
    · rename_i e
      rw [List.count_cons_of_ne (by simpa using e)]
      split
      · rename_i h; exact absurd h (splitB_ne c s)
      · rename_i w ws h; rw [h] at ih; simpa using ih
theorem index_cases (s : Bs) (c : UInt8) : (c ∉ s ∧ Lib.indexByte s c = -1) ∨ ∃ a b, s = a ++ c :: b ∧ c ∉ a ∧ Lib.indexByte s c = (a.length : Int) := by
  induction s with
  | nil => exact .inl ⟨by simp, rfl⟩
  | cons d s ih =>
    by_cases hd : d = c
    · subst hd
      exact .inr ⟨[], s, rfl, by simp, by simp [Lib.indexByte]⟩
    · rcases ih with ⟨h1, h2⟩ | ⟨a, b, rfl, h1, h2⟩
      · refine .inl ⟨by simp [h1, Ne.symm hd], ?_⟩
        simp [Lib.indexByte, hd, h2]
      · refine .inr ⟨d :: a, b, rfl, by simp [h1, Ne.symm hd], ?_⟩
        simp [Lib.indexByte, hd, h2]
theorem count_none {c : UInt8} {s : Bs} (h : c ∉ s) : s.count c = 0 := List.count_eq_zero.2 h

theorem c_strings_Index (s : Bs) (c : UInt8) {H : AH} {K : AV → AH → Prop} (h : K (.int .i64 (Lib.indexByte s c)) H) : r_strings_Index [.str s, .str [c]] H K := by
  have hc : ((c.toNat : Int)).toNat.toUInt8 = c := by simp
  by_cases he : s = [c]
  · subst he
    have e : Lib.indexByte [c] c = 0 := by simp [Lib.indexByte]
    rw [e] at h
    simpa [r_strings_Index, r_i_stringslite_Index] using h
  · have e : ([c] == s) = false := by simpa using Ne.symm he
    have e2 : (s == [c]) = false := by simpa using he
    simpa [r_strings_Index, r_i_stringslite_Index, r_i_stringslite_IndexByte, r_i_bytealg_IndexByteString, nat_indexByte, e, e2] using h
theorem c_strings_Count (s : Bs) (c : UInt8) {H : AH} {K : AV → AH → Prop} (h : K (.int .i64 (s.count c : Nat)) H) : r_strings_Count [.str s, .str [c]] H K := by
  simpa [r_strings_Count, r_i_bytealg_CountString, nat_count] using h

theorem set_mid {x : AV} (l r : List AV) (y : AV) : (l ++ y :: r).set l.length x = l ++ x :: r := by simp
theorem c_genSplit_loop (c : UInt8) (N : Nat) (hN : N ≤ 1099511627776) {K : AV → AH → Prop} : ∀ (m : Nat) (s : Bs) (done : List Bs) (H H0 : AH) (o : Nat), s.count c = m → done.length + m = N → s.length ≤ 1099511627776 → H0.next ≤ o → Ext H0 H →
    H.get o = some (.cells (done.map .str ++ List.replicate (m + 1) (.str []))) →
    (∀ H', Ext H0 H' → H'.get o = some (.cells ((done ++ splitB c s).map .str)) → K (.osl o 0 (N + 1) (N + 1)) H') →
    LoopP (r_strings_genSplit_p4088 K) [.str s, .str [c], .int .i64 0, .int .i64 N, .osl o 0 (N + 1) (N + 1), .int .i64 done.length] H := by
  intro m
  induction m with
  | zero =>
    intro s done H H0 o hm hd hs ho he hg h
    refine .fold ?_
    have hc : c ∉ s := List.count_eq_zero.1 hm
    have hlt : ¬ ((done.length : Int) < (N : Int)) := by omega
    have h0 : (0 : Int) ≤ (done.length : Int) ∧ (done.length : Int) < ((N + 1 : Nat) : Int) := by omega
    have hw : IntKind.i64.wrap ((done.length : Int) + 1) = ((N + 1 : Nat) : Int) := by rw [wrap_i64 (by omega) (by omega)]; omega
    have hlen : (done.map AV.str ++ List.replicate 1 (AV.str [])).length = N + 1 := by simp; omega
    have hab : abound (N + 1) (N + 1) (some (.int .i64 ((N + 1 : Nat) : Int))) = some (N + 1) := by simp only [abound]; rw [if_pos (by omega)]; rfl
    simp only [r_strings_genSplit_p4088, abin_i_lss, bnd_some, branch_bool, decide_eq_true_eq, hlt, if_false, r_strings_genSplit_p1023, idxA, h0, and_self, if_true, Int.toNat_natCast, Nat.mul_one, Nat.zero_add,
      ast1uptr hg (v := .str s) rfl (show done.length < _ by rw [hlen]; omega), abin_i_add, hw, sliceSl, Option.bind_some, abound, Option.map_some, Nat.sub_zero]
    rw [if_pos (by omega)]
    simp only [bnd_some, Option.bind_some, ite_self]
    refine h _ (he.put ho _) ?_
    rw [get_put_self, splitB_none c s hc]
    have := set_mid (x := .str s) (done.map AV.str) [] (.str [])
    simp only [List.length_map] at this
    simp [this]
  | succ m ih =>
    intro s done H H0 o hm hd hs ho he hg h
    refine .fold ?_
    have hlt : ((done.length : Int) < (N : Int)) := by omega
    have h0 : (0 : Int) ≤ (done.length : Int) ∧ (done.length : Int) < ((N + 1 : Nat) : Int) := by omega
    rcases index_cases s c with ⟨hc, _⟩ | ⟨a, b, rfl, ha, hi⟩
    · rw [count_none hc] at hm; omega
    have hcb : b.count c = m := by
      rw [List.count_append, count_none ha, List.count_cons_self] at hm; omega
    simp only [List.length_append, List.length_cons] at hs
    have hlen : (done.map AV.str ++ List.replicate (m + 1 + 1) (AV.str [])).length = N + 1 := by simp; omega
    have hw1 : IntKind.i64.wrap ((a.length : Int) + 0) = a.length := by rw [wrap_i64 (by omega) (by omega)]; omega
    have hw2 : IntKind.i64.wrap ((a.length : Int) + ((1 : Nat) : Int)) = ((a.length + 1 : Nat) : Int) := by rw [wrap_i64 (by omega) (by omega)]; omega
    have hw3 : IntKind.i64.wrap ((done.length : Int) + 1) = ((done.length + 1 : Nat) : Int) := by rw [wrap_i64 (by omega) (by omega)]; omega
    have hneg : ¬ ((a.length : Int) < 0) := by omega
    simp only [r_strings_genSplit_p4088, abin_i_lss, bnd_some, branch_bool, decide_eq_true_eq, hlt, if_true]
    refine c_strings_Index _ c ?_
    have e1 : (0 : Int) ≤ (a.length : Int) ∧ (a.length : Int) ≤ ((a.length + (b.length + 1) : Nat) : Int) := by omega
    have e2 : (0 : Int) ≤ ((a.length + 1 : Nat) : Int) ∧ ((a.length + 1 : Nat) : Int) ≤ ((a.length + (b.length + 1) : Nat) : Int) := by omega
    have e3 : (a ++ c :: b).take a.length = a := by simp
    have e4 : (a ++ c :: b).drop (a.length + 1) = b := by rw [← List.drop_drop]; simp
    simp only [hi, bnd_some, branch_bool, decide_eq_true_eq, hneg, if_false, abin_i_add, hw1, sliceStr_to, sliceStr_from, List.length_append, List.length_cons, e1, e2, and_self, if_true, Int.toNat_natCast, e3, e4, idxA, h0, Nat.mul_one, Nat.zero_add,
      ast1uptr hg (v := .str a) rfl (show done.length < _ by rw [hlen]; omega), lenStr_str, List.length_nil, hw2, hw3]
    have hset := set_mid (x := .str a) (done.map AV.str) (List.replicate (m + 1) (.str [])) (.str [])
    simp only [List.length_map] at hset
    have hcells : (done.map AV.str ++ List.replicate (m + 1 + 1) (AV.str [])).set done.length (.str a) = ((done ++ [a]).map AV.str ++ List.replicate (m + 1) (.str [])) := by
      rw [List.replicate_succ, hset]; simp
    rw [hcells]
    have hl : (done ++ [a]).length = done.length + 1 := by simp
    have := ih b (done ++ [a]) (H.put o (.cells ((done ++ [a]).map AV.str ++ List.replicate (m + 1) (.str [])))) H0 o hcb (by simp; omega) (by omega) ho (he.put ho _) (get_put_self _ _ _) (fun H' hx hg' => h H' hx (by
      rw [hg', splitB_some c a b ha]; simp))
    rw [hl] at this
    exact this
theorem c_strings_Split (s : Bs) (c : UInt8) (hs : s.length ≤ 1000000000) {H : AH} {K : AV → AH → Prop}
    (h : ∀ H' o, Ext H H' → H.next ≤ o → H'.get o = some (.cells ((splitB c s).map .str)) → K (.osl o 0 (splitB c s).length (splitB c s).length) H') : r_strings_Split [.str s, .str [c]] H K := by
  have hcnt : s.count c ≤ s.length := List.count_le_length
  have hw1 : IntKind.i64.wrap (((s.count c : Nat) : Int) + 1) = ((s.count c + 1 : Nat) : Int) := by rw [wrap_i64 (by omega) (by omega)]; omega
  have hw2 : IntKind.i64.wrap ((s.length : Int) + 1) = ((s.length + 1 : Nat) : Int) := by rw [wrap_i64 (by omega) (by omega)]; omega
  have hw3 : IntKind.i64.wrap (((s.count c + 1 : Nat) : Int) - 1) = (s.count c : Nat) := by rw [wrap_i64 (by omega) (by omega)]; omega
  have hmin : ¬ (((s.length + 1 : Nat) : Int) < ((s.count c + 1 : Nat) : Int)) := by omega
  have e0 : (([c] : Bs) == []) = false := rfl
  have hmk : (0 : Int) ≤ ((s.count c + 1 : Nat) : Int) ∧ ((s.count c + 1 : Nat) : Int) ≤ ((s.count c + 1 : Nat) : Int) ∧ ((s.count c + 1 : Nat) : Int) * (16 : Nat) ≤ 281474976710656 ∧ ((s.count c + 1 : Nat) : Int) ≤ 9223372036854775807 := by omega
  simp only [r_strings_Split, r_strings_genSplit, abin_i_eql, bnd_some, branch_bool, abin_s_eql, e0, Bool.false_eq_true, if_false, abin_i_lss]
  have d0 : ((-1 : Int) == 0) = false := rfl
  have d1 : decide ((-1 : Int) < 0) = true := rfl
  simp only [d0, d1, Bool.false_eq_true, if_false, if_true]
  refine c_strings_Count s c ?_
  simp only [abin_i_add, hw1, bnd_some, r_strings_genSplit_p31, lenStr_str, hw2, amin2uint, hmin, if_false, mkSl, hmk, and_self, if_true, abin_i_sub, hw3, Int.toNat_natCast]
  refine c_genSplit_loop c (s.count c) (by omega) (s.count c) s [] _ H H.next rfl (by simp) (by omega) (Nat.le_refl _) ((Ext.refl H).add _) (by rw [get_add_self]; simp [rep]) fun H' hx hg => ?_
  have := h H' H.next hx (Nat.le_refl _) (by simpa using hg)
  rw [splitB_length] at this
  exact this
end Go.Va
