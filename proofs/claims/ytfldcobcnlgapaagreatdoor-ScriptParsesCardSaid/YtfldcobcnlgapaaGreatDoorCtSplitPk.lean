/-
  Texts of this claim, one behind the other: what each holds stands at its head.
-/
import Derived.Test.YtfldcobcnlgapaaGreatDoorCtLib
/-
  Contracts of the library's functions: a text in parts; what is left of a list.
-/
set_option linter.unusedVariables false
set_option linter.unusedSimpArgs false
set_option maxRecDepth 100000
namespace Go.Va
/-- a text in parts, cut at each sign c -/
def splitB (c : UInt8) : Bs → List Bs
  | [] => [[]]
  | d :: s => if d = c then [] :: splitB c s else match splitB c s with
    | [] => [[d]]
    | w :: ws => (d :: w) :: ws
theorem splitB_ne (c : UInt8) : ∀ s, splitB c s ≠ []
  | [] => by simp [splitB]
  | d :: s => by
    unfold splitB
    split
    · simp
    · split <;> simp
theorem splitB_none (c : UInt8) : ∀ s : Bs, c ∉ s → splitB c s = [s]
  | [], _ => rfl
  | d :: s, h => by
    simp only [List.mem_cons, not_or] at h
    unfold splitB
    rw [if_neg (Ne.symm h.1), splitB_none c s h.2]
theorem splitB_some (c : UInt8) : ∀ (a b : Bs), c ∉ a → splitB c (a ++ c :: b) = a :: splitB c b
  | [], b, _ => by simp [splitB]
  | d :: a, b, h => by
    simp only [List.mem_cons, not_or] at h
    show splitB c (d :: (a ++ c :: b)) = _
    rw [splitB, if_neg (Ne.symm h.1), splitB_some c a b h.2]
theorem splitB_length (c : UInt8) : ∀ s : Bs, (splitB c s).length = s.count c + 1
  | [] => rfl
  | d :: s => by
    have ih := splitB_length c s
    unfold splitB
    split
    · rename_i e; subst e; simp [ih]
    · rename_i e
      rw [List.count_cons_of_ne (by simpa using e)]
      split
      · rename_i h; exact absurd h (splitB_ne c s)
      · rename_i w ws h; rw [h] at ih; simpa using ih
theorem index_cases (s : Bs) (c : UInt8) : (c ∉ s ∧ Lib.indexByte s c = -1) ∨ ∃ a b, s = a ++ c :: b ∧ c ∉ a ∧ Lib.indexByte s c = (a.length : Int) := by
  induction s with
  | nil => exact .inl ⟨by simp, rfl⟩
  | cons d s ih =>
    by_cases hd : d = c
    · subst hd
      exact .inr ⟨[], s, rfl, by simp, by simp [Lib.indexByte]⟩
    · rcases ih with ⟨h1, h2⟩ | ⟨a, b, rfl, h1, h2⟩
      · refine .inl ⟨by simp [h1, Ne.symm hd], ?_⟩
        simp [Lib.indexByte, hd, h2]
      · refine .inr ⟨d :: a, b, rfl, by simp [h1, Ne.symm hd], ?_⟩
        simp [Lib.indexByte, hd, h2]
theorem count_none {c : UInt8} {s : Bs} (h : c ∉ s) : s.count c = 0 := List.count_eq_zero.2 h

theorem c_strings_Index (s : Bs) (c : UInt8) {H : AH} {K : AV → AH → Prop} (h : K (.int .i64 (Lib.indexByte s c)) H) : r_strings_Index [.str s, .str [c]] H K := by
  have hc : ((c.toNat : Int)).toNat.toUInt8 = c := by simp
  by_cases he : s = [c]
  · subst he
    have e : Lib.indexByte [c] c = 0 := by simp [Lib.indexByte]
    rw [e] at h
    simpa [r_strings_Index, r_i_stringslite_Index] using h
  · have e : ([c] == s) = false := by simpa using Ne.symm he
    have e2 : (s == [c]) = false := by simpa using he
    simpa [r_strings_Index, r_i_stringslite_Index, r_i_stringslite_IndexByte, r_i_bytealg_IndexByteString, nat_indexByte, e, e2] using h
theorem c_strings_Count (s : Bs) (c : UInt8) {H : AH} {K : AV → AH → Prop} (h : K (.int .i64 (s.count c : Nat)) H) : r_strings_Count [.str s, .str [c]] H K := by
  simpa [r_strings_Count, r_i_bytealg_CountString, nat_count] using h

theorem set_mid {x : AV} (l r : List AV) (y : AV) : (l ++ y :: r).set l.length x = l ++ x :: r := by simp
theorem c_genSplit_loop (c : UInt8) (N : Nat) (hN : N ≤ 1099511627776) {K : AV → AH → Prop} : ∀ (m : Nat) (s : Bs) (done : List Bs) (H H0 : AH) (o : Nat), s.count c = m → done.length + m = N → s.length ≤ 1099511627776 → H0.next ≤ o → Ext H0 H →
    H.get o = some (.cells (done.map .str ++ List.replicate (m + 1) (.str []))) →
    (∀ H', Ext H0 H' → H'.get o = some (.cells ((done ++ splitB c s).map .str)) → K (.osl o 0 (N + 1) (N + 1)) H') →
    LoopP (r_strings_genSplit_p4088 K) [.str s, .str [c], .int .i64 0, .int .i64 N, .osl o 0 (N + 1) (N + 1), .int .i64 done.length] H := by
  intro m
  induction m with
  | zero =>
    intro s done H H0 o hm hd hs ho he hg h
    refine .fold ?_
    have hc : c ∉ s := List.count_eq_zero.1 hm
    have hlt : ¬ ((done.length : Int) < (N : Int)) := by omega
    have h0 : (0 : Int) ≤ (done.length : Int) ∧ (done.length : Int) < ((N + 1 : Nat) : Int) := by omega
    have hw : IntKind.i64.wrap ((done.length : Int) + 1) = ((N + 1 : Nat) : Int) := by rw [wrap_i64 (by omega) (by omega)]; omega
    have hlen : (done.map AV.str ++ List.replicate 1 (AV.str [])).length = N + 1 := by simp; omega
    have hab : abound (N + 1) (N + 1) (some (.int .i64 ((N + 1 : Nat) : Int))) = some (N + 1) := by simp only [abound]; rw [if_pos (by omega)]; rfl
    simp only [r_strings_genSplit_p4088, abin_i_lss, bnd_some, branch_bool, decide_eq_true_eq, hlt, if_false, r_strings_genSplit_p1023, idxA, h0, and_self, if_true, Int.toNat_natCast, Nat.mul_one, Nat.zero_add,
      ast1uptr hg (v := .str s) rfl (show done.length < _ by rw [hlen]; omega), abin_i_add, hw, sliceSl, Option.bind_some, abound, Option.map_some, Nat.sub_zero]
    rw [if_pos (by omega)]
    simp only [bnd_some, Option.bind_some, ite_self]
    refine h _ (he.put ho _) ?_
    rw [get_put_self, splitB_none c s hc]
    have := set_mid (x := .str s) (done.map AV.str) [] (.str [])
    simp only [List.length_map] at this
    simp [this]
  | succ m ih =>
    intro s done H H0 o hm hd hs ho he hg h
    refine .fold ?_
    have hlt : ((done.length : Int) < (N : Int)) := by omega
    have h0 : (0 : Int) ≤ (done.length : Int) ∧ (done.length : Int) < ((N + 1 : Nat) : Int) := by omega
    rcases index_cases s c with ⟨hc, _⟩ | ⟨a, b, rfl, ha, hi⟩
    · rw [count_none hc] at hm; omega
    have hcb : b.count c = m := by
      rw [List.count_append, count_none ha, List.count_cons_self] at hm; omega
    simp only [List.length_append, List.length_cons] at hs
    have hlen : (done.map AV.str ++ List.replicate (m + 1 + 1) (AV.str [])).length = N + 1 := by simp; omega
    have hw1 : IntKind.i64.wrap ((a.length : Int) + 0) = a.length := by rw [wrap_i64 (by omega) (by omega)]; omega
    have hw2 : IntKind.i64.wrap ((a.length : Int) + ((1 : Nat) : Int)) = ((a.length + 1 : Nat) : Int) := by rw [wrap_i64 (by omega) (by omega)]; omega
    have hw3 : IntKind.i64.wrap ((done.length : Int) + 1) = ((done.length + 1 : Nat) : Int) := by rw [wrap_i64 (by omega) (by omega)]; omega
    have hneg : ¬ ((a.length : Int) < 0) := by omega
    simp only [r_strings_genSplit_p4088, abin_i_lss, bnd_some, branch_bool, decide_eq_true_eq, hlt, if_true]
    refine c_strings_Index _ c ?_
    have e1 : (0 : Int) ≤ (a.length : Int) ∧ (a.length : Int) ≤ ((a.length + (b.length + 1) : Nat) : Int) := by omega
    have e2 : (0 : Int) ≤ ((a.length + 1 : Nat) : Int) ∧ ((a.length + 1 : Nat) : Int) ≤ ((a.length + (b.length + 1) : Nat) : Int) := by omega
    have e3 : (a ++ c :: b).take a.length = a := by simp
    have e4 : (a ++ c :: b).drop (a.length + 1) = b := by rw [← List.drop_drop]; simp
    simp only [hi, bnd_some, branch_bool, decide_eq_true_eq, hneg, if_false, abin_i_add, hw1, sliceStr_to, sliceStr_from, List.length_append, List.length_cons, e1, e2, and_self, if_true, Int.toNat_natCast, e3, e4, idxA, h0, Nat.mul_one, Nat.zero_add,
      ast1uptr hg (v := .str a) rfl (show done.length < _ by rw [hlen]; omega), lenStr_str, List.length_nil, hw2, hw3]
    have hset := set_mid (x := .str a) (done.map AV.str) (List.replicate (m + 1) (.str [])) (.str [])
    simp only [List.length_map] at hset
    have hcells : (done.map AV.str ++ List.replicate (m + 1 + 1) (AV.str [])).set done.length (.str a) = ((done ++ [a]).map AV.str ++ List.replicate (m + 1) (.str [])) := by
      rw [List.replicate_succ, hset]; simp
    rw [hcells]
    have hl : (done ++ [a]).length = done.length + 1 := by simp
    have := ih b (done ++ [a]) (H.put o (.cells ((done ++ [a]).map AV.str ++ List.replicate (m + 1) (.str [])))) H0 o hcb (by simp; omega) (by omega) ho (he.put ho _) (get_put_self _ _ _) (fun H' hx hg' => h H' hx (by
      rw [hg', splitB_some c a b ha]; simp))
    rw [hl] at this
    exact this
theorem c_strings_Split (s : Bs) (c : UInt8) (hs : s.length ≤ 1000000000) {H : AH} {K : AV → AH → Prop}
    (h : ∀ H' o, Ext H H' → H.next ≤ o → H'.get o = some (.cells ((splitB c s).map .str)) → K (.osl o 0 (splitB c s).length (splitB c s).length) H') : r_strings_Split [.str s, .str [c]] H K := by
  have hcnt : s.count c ≤ s.length := List.count_le_length
  have hw1 : IntKind.i64.wrap (((s.count c : Nat) : Int) + 1) = ((s.count c + 1 : Nat) : Int) := by rw [wrap_i64 (by omega) (by omega)]; omega
  have hw2 : IntKind.i64.wrap ((s.length : Int) + 1) = ((s.length + 1 : Nat) : Int) := by rw [wrap_i64 (by omega) (by omega)]; omega
  have hw3 : IntKind.i64.wrap (((s.count c + 1 : Nat) : Int) - 1) = (s.count c : Nat) := by rw [wrap_i64 (by omega) (by omega)]; omega
  have hmin : ¬ (((s.length + 1 : Nat) : Int) < ((s.count c + 1 : Nat) : Int)) := by omega
  have e0 : (([c] : Bs) == []) = false := rfl
  have hmk : (0 : Int) ≤ ((s.count c + 1 : Nat) : Int) ∧ ((s.count c + 1 : Nat) : Int) ≤ ((s.count c + 1 : Nat) : Int) ∧ ((s.count c + 1 : Nat) : Int) * (16 : Nat) ≤ 281474976710656 ∧ ((s.count c + 1 : Nat) : Int) ≤ 9223372036854775807 := by omega
  simp only [r_strings_Split, r_strings_genSplit, abin_i_eql, bnd_some, branch_bool, abin_s_eql, e0, Bool.false_eq_true, if_false, abin_i_lss]
  have d0 : ((-1 : Int) == 0) = false := rfl
  have d1 : decide ((-1 : Int) < 0) = true := rfl
  simp only [d0, d1, Bool.false_eq_true, if_false, if_true]
  refine c_strings_Count s c ?_
  simp only [abin_i_add, hw1, bnd_some, r_strings_genSplit_p31, lenStr_str, hw2, amin2uint, hmin, if_false, mkSl, hmk, and_self, if_true, abin_i_sub, hw3, Int.toNat_natCast]
  refine c_genSplit_loop c (s.count c) (by omega) (s.count c) s [] _ H H.next rfl (by simp) (by omega) (Nat.le_refl _) ((Ext.refl H).add _) (by rw [get_add_self]; simp [rep]) fun H' hx hg => ?_
  have := h H' H.next hx (Nat.le_refl _) (by simpa using hg)
  rw [splitB_length] at this
  exact this
end Go.Va

/-
  Contracts of the library's functions: what is left of a list; a text as a number.
-/
set_option linter.unusedVariables false
set_option linter.unusedSimpArgs false
set_option maxRecDepth 100000
namespace Go.Va
theorem Ext.kill {H H' : AH} (h : Ext H H') {o : Nat} (ho : H.next ≤ o) : Ext H (H'.kill o) :=
  ⟨h.next, fun o' ho' => by simp only [AH.kill]; rw [if_neg (by omega)]; exact h.get o' ho', fun c hc => h.tok c hc⟩
theorem flat_str (l : List Bs) : flat (l.map .str) = l.map .str := by
  induction l with
  | nil => rfl
  | cons a l ih => simp only [flat, List.map_cons, List.flatMap_cons] at ih ⊢; rw [ih]; rfl
/-- owned texts count as texts for good -/
theorem FrzK.strs {K : AV → AH → Prop} {H : AH} {o n cap : Nat} {l : List Bs} {rest : List AV} (hg : H.get o = some (.cells (l.map .str ++ rest))) (hn : l.length = n) (h : K (.sl .stuck 1 (l.map .str)) (H.kill o)) : FrzK K (.osl o 0 n cap) H := by
  subst hn
  refine .inr ⟨o, 0, l.length, cap, _, 1, l.map .str, rfl, hg, by simp, fun i e he => ?_, by omega, by simp, ?_, h⟩
  · simp only [List.getElem?_map, Option.map_eq_some_iff] at he
    obtain ⟨a, _, rfl⟩ := he; rfl
  · rw [flat_str]; simp
theorem c_frzSplit (s : Bs) (c : UInt8) (hs : s.length ≤ 1000000000) {H : AH} {K : AV → AH → Prop}
    (h : ∀ H', Ext H H' → K (.sl .stuck 1 ((splitB c s).map .str)) H') : frz r_strings_Split [.str s, .str [c]] H K := by
  unfold frz
  refine c_strings_Split s c hs fun H' o hx ho hg => ?_
  exact FrzK.strs (rest := []) (by simpa using hg) rfl (h _ (hx.kill ho))
theorem c_frzSplitO (s : Bs) (c : UInt8) (hs : s.length ≤ 1000000000) {H : AH} {K : AV → AH → Prop}
    (h : ∀ H' o, Ext H H' → H.next ≤ o → H'.get o = some (.cells ((splitB c s).map .str)) → K (.osl o 0 (splitB c s).length (splitB c s).length) H') : frz r_strings_Split [.str s, .str [c]] H K := by
  unfold frz
  exact c_strings_Split s c hs fun H' o hx ho hg => .inl (h H' o hx ho hg)

-- ---------------------------------------------------------------- DeleteFunc of texts
section
variable {ct : Tab} {f : AV} {p : Bs → Bool} {K : AV → AH → Prop}
theorem c_IndexFunc_strs (hp : ∀ w H K, K (.bool (p w)) H → acallv ct f [.str w] H K) (ws : List Bs) (hl : ws.length ≤ 1000000000) {H : AH} {o cap : Nat} (hg : H.get o = some (.cells (ws.map .str))) :
    ∀ (r : List Bs) (i : Nat), ws.drop i = r → (K (.int .i64 (match r.findIdx? p with | some j => ((i + j : Nat) : Int) | none => -1)) H) →
    LoopP (r_slices_IndexFunc_string_string_p52 ct K) [.osl o 0 ws.length cap, f, .int .i64 ws.length, .int .i64 i] H
  | [], i, hr, h => by
    refine .fold ?_
    have : ws.length ≤ i := by simpa using hr
    have hn : ¬ ((i : Int) < (ws.length : Int)) := by omega
    simpa [r_slices_IndexFunc_string_string_p52, hn] using h
  | w :: r, i, hr, h => by
    refine .fold ?_
    have hw : ws[i]? = some w := by
      have := congrArg (fun l => l[0]?) hr
      simpa using this
    have hlt : i < ws.length := (List.getElem?_eq_some_iff.1 hw).1
    have hr' : ws.drop (i + 1) = r := by rw [← List.drop_drop, hr]; rfl
    have h1 : ((i : Int) < (ws.length : Int)) := by omega
    have h2 : (0 : Int) ≤ (i : Int) ∧ (i : Int) < (ws.length : Int) := by omega
    have hww : IntKind.i64.wrap ((i : Int) + 1) = ((i + 1 : Nat) : Int) := by rw [wrap_i64 (by omega) (by omega)]; omega
    have hgi : (ws.map AV.str)[i]? = some (.str w) := by simp [hw]
    simp only [r_slices_IndexFunc_string_string_p52, abin_i_lss, bnd_some, branch_bool, decide_eq_true_eq, h1, if_true, idxA, h2, and_self, Int.toNat_natCast, Nat.mul_one, Nat.zero_add, ld1uptr hg, hgi]
    refine hp w H _ ?_
    simp only [branch_bool, abin_i_add, hww, bnd_some]
    split
    · rename_i hpw
      simpa [List.findIdx?_cons, hpw] using h
    · rename_i hpw
      refine c_IndexFunc_strs hp ws hl hg r (i + 1) hr' ?_
      simp only [List.findIdx?_cons, hpw, Bool.false_eq_true, if_false] at h
      cases hf : List.findIdx? p r with
      | none => simpa [hf] using h
      | some j => simp only [hf, Option.map_some] at h ⊢; rw [show i + 1 + j = i + (j + 1) by omega]; exact h

theorem rep_one (n : Nat) (x : AV) : rep n [x] = List.replicate n x := by simp [rep, List.flatten_replicate_singleton]
theorem c_DeleteFunc_loop (hp : ∀ w H K, K (.bool (p w)) H → acallv ct f [.str w] H K) (ws : List Bs) (hl : ws.length ≤ 1000000000) {H0 : AH} {o cap : Nat} (hcap : ws.length ≤ cap) (ho : H0.next ≤ o) 
    (h : ∀ H' k, Ext H0 H' → H'.get o = some (.cells ((ws.filter fun w => !p w).map .str ++ List.replicate k (.str []))) → K (.osl o 0 (ws.filter fun w => !p w).length cap) H') :
    ∀ (r : List Bs) (j : Nat) (H : AH) (F : List Bs) (junk : List AV), ws.drop j = r → j ≤ ws.length → (ws.take j).filter (fun w => !p w) = F → F.length + junk.length = j → 0 < junk.length → Ext H0 H → H.get o = some (.cells (F.map .str ++ junk ++ r.map .str)) →
    LoopP (r_slices_DeleteFunc_string_string_p244 ct K) [.osl o 0 ws.length cap, f, .int .i64 F.length, .int .i64 j] H
  | [], j, H, F, junk, hr, hjl, hF, hj, hjk, hx, hg => by
    refine .fold ?_
    have hlj : ws.length ≤ j := by simpa using hr
    have hn : ¬ ((j : Int) < (ws.length : Int)) := by omega
    have hF' : ws.filter (fun w => !p w) = F := by rw [← hF, List.take_of_length_le hlj]
    have e1 : (0 : Int) ≤ (F.length : Int) ∧ (F.length : Int) ≤ (ws.length : Int) := by omega
    have e2 : (0 : Int) ≤ (F.length : Int) ∧ (F.length : Int) ≤ (cap : Int) := by omega
    have e3 : ¬ (cap = F.length) := by omega
    have e4 : ¬ (ws.length - F.length = 0) := by omega
    have hjlen : junk.length = ws.length - F.length := by omega
    simp only [List.map_nil, List.append_nil] at hg
    rw [hF'] at h
    have hsets : sets (F.map AV.str ++ junk) F.length (rep (ws.length - F.length) [.str []]) = F.map AV.str ++ List.replicate (ws.length - F.length) (.str []) := by
      have := sets_all (rep (ws.length - F.length) [.str []]) (F.map AV.str) junk (by simp; omega)
      simp only [List.length_map] at this
      rw [this, rep_one]
    have hle : F.length + (ws.length - F.length) ≤ (F.map AV.str ++ junk).length ∧ ([AV.str []].all AV.one = true) := ⟨by simp; omega, rfl⟩
    simp only [r_slices_DeleteFunc_string_string_p244, lenSl_osl, bnd_some, abin_i_lss, branch_bool, decide_eq_true_eq, hn, if_false, sliceSl, abound, e1, e2, Int.toNat_natCast, and_self, if_true, Option.bind_some, Option.map_some, Nat.zero_add, Nat.mul_one, Nat.sub_zero, ite_self, Nat.zero_mul, Nat.add_zero,
      oclear, e3, e4, hg, hle, hsets]
    exact h _ _ (hx.put ho _) (get_put_self _ _ _)
  | w :: r, j, H, F, junk, hr, hjl, hF, hj, hjk, hx, hg => by
    refine .fold ?_
    have hw : ws[j]? = some w := by
      have := congrArg (fun l => l[0]?) hr
      simpa using this
    have hlt : j < ws.length := (List.getElem?_eq_some_iff.1 hw).1
    have hr' : ws.drop (j + 1) = r := by rw [← List.drop_drop, hr]; rfl
    have h1 : ((j : Int) < (ws.length : Int)) := by omega
    have h2 : (0 : Int) ≤ (j : Int) ∧ (j : Int) < (ws.length : Int) := by omega
    have h3 : (0 : Int) ≤ (F.length : Int) ∧ (F.length : Int) < (ws.length : Int) := by omega
    have hww : IntKind.i64.wrap ((j : Int) + 1) = ((j + 1 : Nat) : Int) := by rw [wrap_i64 (by omega) (by omega)]; omega
    have hwf : IntKind.i64.wrap ((F.length : Int) + 1) = ((F.length + 1 : Nat) : Int) := by rw [wrap_i64 (by omega) (by omega)]; omega
    have htk : ws.take (j + 1) = ws.take j ++ [w] := by
      rw [List.take_succ_eq_append_getElem hlt]; congr 2; exact (List.getElem?_eq_some_iff.1 hw).2
    have hgj : (F.map AV.str ++ junk ++ (w :: r).map AV.str)[j]? = some (.str w) := by
      rw [List.getElem?_append_right (by simp; omega)]
      have : j - (F.map AV.str ++ junk).length = 0 := by simp; omega
      rw [this]; rfl
    simp only [r_slices_DeleteFunc_string_string_p244, lenSl_osl, bnd_some, abin_i_lss, branch_bool, decide_eq_true_eq, h1, if_true, idxA, h2, and_self, Int.toNat_natCast, Nat.mul_one, Nat.zero_add, ld1uptr hg, hgj]
    refine hp w H _ ?_
    simp only [aun_not, bnd_some, branch_bool, h3, and_self, if_true, Int.toNat_natCast, abin_i_add, hww, hwf]
    cases hpw : p w with
    | false =>
      obtain ⟨y, junk', rfl⟩ : ∃ y junk', junk = y :: junk' := by
        cases junk with
        | nil => simp at hjk
        | cons y l => exact ⟨y, l, rfl⟩
      have hset : (F.map AV.str ++ (y :: junk') ++ (w :: r).map AV.str).set F.length (.str w) = (F ++ [w]).map AV.str ++ (junk' ++ [.str w]) ++ r.map AV.str := by
        have := set_mid (x := .str w) (F.map AV.str) (junk' ++ (w :: r).map AV.str) y
        simp only [List.length_map] at this
        simp only [List.append_assoc, List.cons_append] at this ⊢
        rw [this]; simp
      simp only [Bool.not_false, if_true, ast1uptr hg (v := .str w) rfl (show F.length < _ by simp), bnd_some, r_slices_DeleteFunc_string_string_p979, abin_i_add, hww, hset]
      have := c_DeleteFunc_loop hp ws hl hcap ho h r (j + 1) (H.put o (.cells ((F ++ [w]).map AV.str ++ (junk' ++ [.str w]) ++ r.map AV.str))) (F ++ [w]) (junk' ++ [.str w]) hr' (by omega)
        (by rw [htk, List.filter_append, hF]; simp [hpw]) (by simp at hj ⊢; omega) (by simp) (hx.put ho _) (get_put_self _ _ _)
      simpa using this
    | true =>
      simp only [Bool.not_true, Bool.false_eq_true, if_false, r_slices_DeleteFunc_string_string_p979, abin_i_add, bnd_some, hww]
      exact c_DeleteFunc_loop hp ws hl hcap ho h r (j + 1) H F (junk ++ [.str w]) hr' (by omega)
        (by rw [htk, List.filter_append, hF]; simp [hpw]) (by simp; omega) (by simp) hx (by rw [hg]; simp)
theorem findIdx_spec {α : Type} (p : α → Bool) : ∀ (l : List α) (i : Nat), l.findIdx? p = some i → ∃ a x b, l = a ++ x :: b ∧ a.length = i ∧ (∀ y ∈ a, p y = false) ∧ p x = true
  | [], i, h => by simp at h
  | y :: l, i, h => by
    rw [List.findIdx?_cons] at h
    split at h
    · rename_i hy; cases h; exact ⟨[], y, l, rfl, rfl, by simp, hy⟩
    · rename_i hy
      simp only [Option.map_eq_some_iff] at h
      obtain ⟨j, hj, rfl⟩ := h
      obtain ⟨a, x, b, rfl, h2, h3, h4⟩ := findIdx_spec p l j hj
      exact ⟨y :: a, x, b, rfl, by simp [h2], by intro z hz; rcases List.mem_cons.1 hz with rfl | hz; simpa using hy; exact h3 z hz, h4⟩
theorem c_DeleteFunc_strs (hp : ∀ w H K, K (.bool (p w)) H → acallv ct f [.str w] H K) (ws : List Bs) (hl : ws.length ≤ 1000000000) {H0 H : AH} {o cap : Nat} (hcap : ws.length ≤ cap) (ho : H0.next ≤ o) (hx : Ext H0 H) (hg : H.get o = some (.cells (ws.map .str)))
    (h : ∀ H' k, Ext H0 H' → H'.get o = some (.cells ((ws.filter fun w => !p w).map .str ++ List.replicate k (.str []))) → K (.osl o 0 (ws.filter fun w => !p w).length cap) H') :
    r_slices_DeleteFunc_string_string ct [.osl o 0 ws.length cap, f] H K := by
  simp only [r_slices_DeleteFunc_string_string, r_slices_IndexFunc_string_string, lenSl_osl, bnd_some]
  refine c_IndexFunc_strs hp ws hl hg ws 0 rfl ?_
  cases hf : ws.findIdx? p with
  | none =>
    have hall : ws.filter (fun w => !p w) = ws := by
      rw [List.filter_eq_self]; intro a ha
      have := List.findIdx?_eq_none_iff.1 hf a ha
      simpa using this
    rw [hall] at h
    have d0 : ((-1 : Int) == -1) = true := rfl
    simp only [abin_i_eql, d0, bnd_some, branch_bool, if_true]
    exact h H 0 hx (by simpa using hg)
  | some i =>
    obtain ⟨a, x, b, rfl, rfl, ha, hpx⟩ := findIdx_spec p ws i hf
    have d0 : ((a.length : Int) == -1) = false := by simp
    simp only [List.length_append, List.length_cons] at hl
    have hww : IntKind.i64.wrap ((a.length : Int) + 1) = ((a.length + 1 : Nat) : Int) := by rw [wrap_i64 (by omega) (by omega)]; omega
    have hfa : a.filter (fun w => !p w) = a := by rw [List.filter_eq_self]; intro y hy; simp [ha y hy]
    simp only [Nat.zero_add, abin_i_eql, d0, bnd_some, branch_bool, Bool.false_eq_true, if_false, abin_i_add, hww]
    refine c_DeleteFunc_loop hp _ (by simp; omega) hcap ho h b (a.length + 1) H a [.str x] (by rw [← List.drop_drop]; simp) (by simp) ?_ rfl (by simp) hx (by rw [hg]; simp)
    have : (a ++ x :: b).take (a.length + 1) = a ++ [x] := by
      rw [List.take_append, List.take_of_length_le (by omega)]; simp
    rw [this, List.filter_append, hfa]; simp [hpx]
end
end Go.Va

/-
  Contracts: a number of a text, a name.
-/
set_option linter.unusedVariables false
set_option linter.unusedSimpArgs false
set_option maxRecDepth 100000
namespace Go.Va
def isDig (c : UInt8) : Bool := decide (48 ≤ c.toNat ∧ c.toNat ≤ 57)
def numStep (n : Nat) (c : UInt8) : Nat := 10 * n + (c.toNat - 48)
def numOf (s : Bs) : Nat := s.foldl numStep 0
/-- the number that a text is -/
def number (s : Bs) : Option Nat := if s ≠ [] ∧ s.length ≤ 9 ∧ s.all isDig = true ∧ (s.head? ≠ some 48 ∨ s = [48]) then some (numOf s) else none

theorem dropWhile_eq_nil {α : Type} (p : α → Bool) : ∀ (l : List α), l.dropWhile p = [] ↔ ∀ x ∈ l, p x = true
  | [] => by simp
  | a :: l => by
    rw [List.dropWhile_cons]
    split
    · rename_i h; rw [dropWhile_eq_nil p l]; simp [h]
    · rename_i h; simp [h]
theorem dropWhile_last {α : Type} (p : α → Bool) : ∀ (l : List α), (∃ x ∈ l, p x = false) → ∃ x b, l.dropWhile p = x :: b ∧ p x = false
  | [], h => by simp at h
  | a :: l, h => by
    rw [List.dropWhile_cons]
    split
    · rename_i ha
      refine dropWhile_last p l ?_
      obtain ⟨x, hx, hp⟩ := h
      rcases List.mem_cons.1 hx with rfl | hx
      · rw [ha] at hp; cases hp
      · exact ⟨x, hx, hp⟩
    · rename_i ha; exact ⟨a, l, rfl, by simpa using ha⟩
theorem trim_nil (set s : Bs) : trimL set (trimR set s) = [] ↔ ∀ c ∈ s, set.contains c = true := by
  constructor
  · intro h c hc
    cases hq : set.contains c with
    | true => rfl
    | false =>
      obtain ⟨x, b, e, hx⟩ := dropWhile_last set.contains s.reverse ⟨c, by simpa using hc, hq⟩
      have e2 : trimR set s = (x :: b).reverse := by simp only [trimR, e]
      rw [trimL, dropWhile_eq_nil] at h
      have := h x (by rw [e2]; simp)
      rw [hx] at this; cases this
  · intro h
    have : trimR set s = [] := by
      simp only [trimR, List.reverse_eq_nil_iff, dropWhile_eq_nil]
      intro x hx; exact h x (by simpa using hx)
    rw [this]; rfl
def digitSet : Bs := [48, 49, 50, 51, 52, 53, 54, 55, 56, 57]
theorem digitSet_has (c : UInt8) : digitSet.contains c = isDig c := by
  have : ∀ c : Fin 256, digitSet.contains (UInt8.ofFin c) = isDig (UInt8.ofFin c) := by decide
  exact this c.toFin
def nameSet : Bs := [97, 98, 99, 100, 101, 102, 103, 104, 105, 106, 107, 108, 109, 110, 111, 112, 113, 114, 115, 116, 117, 118, 119, 120, 121, 122, 48, 49, 50, 51, 52, 53, 54, 55, 56, 57]
def isNm (c : UInt8) : Bool := decide (97 ≤ c.toNat ∧ c.toNat ≤ 122 ∨ 48 ≤ c.toNat ∧ c.toNat ≤ 57)
theorem nameSet_has (c : UInt8) : nameSet.contains c = isNm c := by
  have : ∀ c : Fin 256, nameSet.contains (UInt8.ofFin c) = isNm (UInt8.ofFin c) := by decide
  exact this c.toFin
theorem trim_digits (s : Bs) : (trimL digitSet (trimR digitSet s) == []) = s.all isDig := by
  rw [Bool.eq_iff_iff, beq_iff_eq, trim_nil, List.all_eq_true]
  simp only [digitSet_has]
theorem trim_names (s : Bs) : (trimL nameSet (trimR nameSet s) == []) = s.all isNm := by
  rw [Bool.eq_iff_iff, beq_iff_eq, trim_nil, List.all_eq_true]
  simp only [nameSet_has]

theorem numOf_lt : ∀ (s : Bs) (n : Nat), s.all isDig = true → s.foldl numStep n < (n + 1) * 10 ^ s.length
  | [], n, _ => by simp
  | c :: s, n, h => by
    simp only [List.all_cons, Bool.and_eq_true, isDig, decide_eq_true_eq] at h
    have := numOf_lt s (numStep n c) h.2
    simp only [List.foldl_cons, List.length_cons, Nat.pow_succ]
    refine Nat.lt_of_lt_of_le this ?_
    have h2 : numStep n c + 1 ≤ (n + 1) * 10 := by unfold numStep; omega
    calc (numStep n c + 1) * 10 ^ s.length ≤ ((n + 1) * 10) * 10 ^ s.length := Nat.mul_le_mul_right _ h2
      _ = (n + 1) * (10 ^ s.length * 10) := by rw [Nat.mul_assoc, Nat.mul_comm 10]
theorem numOf_foldl_ge (s : Bs) (n : Nat) : n ≤ s.foldl numStep n := by
  induction s generalizing n with
  | nil => simp
  | cons c s ih => exact Nat.le_trans (by unfold numStep; omega) (ih (numStep n c))
theorem c_Atoi_loop (s : Bs) (hd : s.all isDig = true) (hl : s.length ≤ 18) {c0 : UInt8} (h0 : s[0]? = some c0) (hc0 : c0.toNat ≠ 45) {H : AH} {K : AV → AH → Prop} (h : K (.tup [.int .i64 (numOf s : Nat), .nili]) H) :
    ∀ (r : Bs) (i : Nat) (n : Nat), s.drop i = r → r.foldl numStep n = numOf s → numOf s < 10 ^ 18 →
    LoopP (r_i_strconv_Atoi_p7540 K) [.str s, .int .i64 n, .sl .stuck 1 (bytesOf s), .int .i64 s.length, .int .i64 i] H
  | [], i, n, hr, hn, hb => by
    refine .fold ?_
    have hi : s.length ≤ i := by simpa using hr
    have hlt : ¬ ((i : Int) < (s.length : Int)) := by omega
    have hn' : n = numOf s := by simpa using hn
    have h45 : ((c0.toNat : Int) == 45) = false := by simp; omega
    subst hn'
    simpa [r_i_strconv_Atoi_p7540, hlt, h0, h45, r_i_strconv_Atoi_p1887] using h
  | c :: r, i, n, hr, hn, hb => by
    refine .fold ?_
    have hc : s[i]? = some c := by
      have := congrArg (fun l => l[0]?) hr
      simpa using this
    have hlt : i < s.length := (List.getElem?_eq_some_iff.1 hc).1
    have hr' : s.drop (i + 1) = r := by rw [← List.drop_drop, hr]; rfl
    have hcd : isDig c = true := List.all_eq_true.1 hd c (List.mem_of_getElem? hc)
    simp only [isDig, decide_eq_true_eq] at hcd
    have h1 : ((i : Int) < (s.length : Int)) := by omega
    have h2 : (0 : Int) ≤ (i : Int) := by omega
    have hgi : (bytesOf s)[i]? = some (.int .u8 c.toNat) := by simp [bytesOf, hc]
    have hw1 : IntKind.u8.wrap ((c.toNat : Int) - 48) = ((c.toNat - 48 : Nat) : Int) := by
      simp [IntKind.wrap, IntKind.bits, IntKind.signed]; omega
    have hgt : ¬ (((c.toNat - 48 : Nat) : Int) > 9) := by omega
    have hnn : numStep n c ≤ numOf s := by rw [← hn]; exact numOf_foldl_ge r _
    have hns : numStep n c = 10 * n + (c.toNat - 48) := rfl
    have hw2 : IntKind.i64.wrap ((n : Int) * 10) = ((10 * n : Nat) : Int) := by rw [wrap_i64 (by omega) (by omega)]; omega
    have hw3 : IntKind.i64.wrap (((10 * n : Nat) : Int) + ((c.toNat - 48 : Nat) : Int)) = (numStep n c : Nat) := by rw [wrap_i64 (by omega) (by omega)]; omega
    have hw4 : IntKind.i64.wrap ((i : Int) + 1) = ((i + 1 : Nat) : Int) := by rw [wrap_i64 (by omega) (by omega)]; omega
    have hw5 : IntKind.i64.wrap ((c.toNat - 48 : Nat) : Int) = ((c.toNat - 48 : Nat) : Int) := wrap_i64 (by omega) (by omega)
    simp only [r_i_strconv_Atoi_p7540, abin_i_lss, bnd_some, branch_bool, decide_eq_true_eq, h1, if_true, idxA, h2, and_self, Int.toNat_natCast, hgi, Option.bind_some, AV.known, AV.cells, ld1uelem, List.getElem?_cons_zero, abin_i_sub, hw1, abin_i_gtr, hgt, if_false, abin_i_mul, hw2, convR, hw5, abin_i_add, hw3, hw4]
    exact c_Atoi_loop s hd hl h0 hc0 h r (i + 1) (numStep n c) hr' (by simpa using hn) hb
theorem c_Atoi (s : Bs) (hd : s.all isDig = true) (hne : s ≠ []) (hl : s.length ≤ 18) {H : AH} {K : AV → AH → Prop} (h : K (.tup [.int .i64 (numOf s : Nat), .nili]) H) : r_strconv_Atoi [.str s] H K := by
  obtain ⟨c, t, rfl⟩ : ∃ c t, s = c :: t := by cases s with
    | nil => exact absurd rfl hne
    | cons c t => exact ⟨c, t, rfl⟩
  have hcd : isDig c = true := by simp only [List.all_cons, Bool.and_eq_true] at hd; exact hd.1
  simp only [isDig, decide_eq_true_eq] at hcd
  have hlt : numOf (c :: t) < 10 ^ 18 := by
    have := numOf_lt (c :: t) 0 hd
    refine Nat.lt_of_lt_of_le this ?_
    rw [Nat.zero_add, Nat.one_mul]
    exact Nat.pow_le_pow_right (by omega) hl
  have h1 : ((0 : Int) < ((c :: t).length : Int)) := by simp only [List.length_cons]; omega
  have h2 : (((c :: t).length : Int) < 19) := by omega
  have h45 : ((c.toNat : Int) == 45) = false := by simp; omega
  have h43 : ((c.toNat : Int) == 43) = false := by simp; omega
  have hloop := fun (K' : AV → AH → Prop) hk => c_Atoi_loop (c :: t) hd hl (c0 := c) rfl (by omega) (H := H) (K := K') hk (c :: t) 0 0 rfl rfl hlt
  simp only [r_strconv_Atoi, r_i_strconv_Atoi, lenStr_str, bnd_some, gwant_bool, aguard_some, Bool.false_eq_true, if_false, beq_self_eq_true, if_true, pickV_bool, abin_i_lss, h1, h2, decide_true, branch_bool, idxStr_str, Int.toNat_zero, List.getElem?_cons_zero, Int.le_refl, Option.map_some, abin_i_eql, h45, h43,
    reduceCtorEq, show (false == true) = false from rfl, r_i_strconv_Atoi_p235, strBytes, lenSl_sl, gwant_nothing]
  have hlb : (bytesOf (c :: t)).length = (c :: t).length := by simp [bytesOf]
  rw [hlb]
  refine hloop _ ?_
  simpa [cmpNil, cmpRes] using h
theorem c_script_Number (s : Bs) (hs : s.length ≤ 9223372036854775807) {H : AH} {K : AV → AH → Prop} (h : ∀ H', Ext H H' → K (.tup [.int .i64 ((number s).getD 0 : Nat), .bool (number s).isSome]) H') : r_script_Number [.str s] H K := by
  have no : ∀ H', Ext H H' → number s = none → K (.tup [.int .i64 0, .bool false]) H' := fun H' hx hn => by
    have := h H' hx
    rw [hn] at this; exact this
  simp only [r_script_Number, abin_s_eql, bnd_some, gwant_bool, aguard_some, lenStr_str, abin_i_gtr, pickV_bool]
  by_cases h0 : s = []
  · have := no H (Ext.refl H) (by simp [number, h0])
    subst h0
    simpa using this
  · have e0 : (s == []) = false := by simpa using h0
    simp only [e0, beq_self_eq_true, if_true, Bool.false_eq_true, if_false]
    by_cases h9 : 9 < s.length
    · have e9 : decide ((s.length : Int) > 9) = true := by simp; omega
      have := no H (Ext.refl H) (by simp only [number]; rw [if_neg (by omega)])
      simpa [e9] using this
    · have e9 : decide ((s.length : Int) > 9) = false := by simp; omega
      simp only [e9, beq_self_eq_true, if_true]
      refine c_strings_Trim s digitSet (by decide) (by decide) (by decide) hs fun H1 hx1 => ?_
      simp only [abin_i_add, abin_i_sub, abin_i_mul, abin_i_eql, abin_i_neq, abin_i_lss, abin_i_leq, abin_i_gtr, abin_i_geq, abin_s_eql, abin_s_neq, bnd_some, bnd_none, branch_bool, gwant_bool, gwant_nothing, aguard_some, wantE_some, pickV_bool, nilck_ptr, nilck_elem, aoff_ptr, aoff_elem, aun_not, aun_neg, lenStr_str, lenSl_nils, lenSl_sl, lenSl_osl, aextract_tup, ld1uelem, idxStr_str, amin2uint, amax2uint, rangeStr_str, sliceStr_from, sliceStr_to, List.getElem?_cons_zero, List.getElem?_cons_succ, Option.map_some, Option.bind_some, Int.toNat_natCast, Int.toNat_zero, Int.le_refl, Bool.not_true, Bool.not_false, Bool.not_not, Bool.false_eq_true, if_true, if_false, decide_eq_true_eq, beq_self_eq_true, bool_ft, bool_tf, decide_true, decide_false, reduceCtorEq, cmpNil, cmpRes, boxCells, AV.known, AV.cells, Nat.zero_add, and_self, and_true, true_and, ite_self, forall_const, not_true_eq_false, not_false_eq_true, trim_digits]
      by_cases hd : s.all isDig = true
      · obtain ⟨c, t, rfl⟩ : ∃ c t, s = c :: t := by cases s with
          | nil => exact absurd rfl h0
          | cons c t => exact ⟨c, t, rfl⟩
        have hcd : isDig c = true := by simp only [List.all_cons, Bool.and_eq_true] at hd; exact hd.1
        have at_ := fun (K' : AV → AH → Prop) hk => c_Atoi (c :: t) hd h0 (by omega) (H := H1) (K := K') hk
        simp only [abin_i_add, abin_i_sub, abin_i_mul, abin_i_eql, abin_i_neq, abin_i_lss, abin_i_leq, abin_i_gtr, abin_i_geq, abin_s_eql, abin_s_neq, bnd_some, bnd_none, branch_bool, gwant_bool, gwant_nothing, aguard_some, wantE_some, pickV_bool, nilck_ptr, nilck_elem, aoff_ptr, aoff_elem, aun_not, aun_neg, lenStr_str, lenSl_nils, lenSl_sl, lenSl_osl, aextract_tup, ld1uelem, idxStr_str, amin2uint, amax2uint, rangeStr_str, sliceStr_from, sliceStr_to, List.getElem?_cons_zero, List.getElem?_cons_succ, Option.map_some, Option.bind_some, Int.toNat_natCast, Int.toNat_zero, Int.le_refl, Bool.not_true, Bool.not_false, Bool.not_not, Bool.false_eq_true, if_true, if_false, decide_eq_true_eq, beq_self_eq_true, bool_ft, bool_tf, decide_true, decide_false, reduceCtorEq, cmpNil, cmpRes, boxCells, AV.known, AV.cells, Nat.zero_add, and_self, and_true, true_and, ite_self, forall_const, not_true_eq_false, not_false_eq_true, hd]
        by_cases h48 : c = 48
        · subst h48
          have e48 : (((48 : UInt8).toNat : Int) == 48) = true := rfl
          simp only [abin_i_add, abin_i_sub, abin_i_mul, abin_i_eql, abin_i_neq, abin_i_lss, abin_i_leq, abin_i_gtr, abin_i_geq, abin_s_eql, abin_s_neq, bnd_some, bnd_none, branch_bool, gwant_bool, gwant_nothing, aguard_some, wantE_some, pickV_bool, nilck_ptr, nilck_elem, aoff_ptr, aoff_elem, aun_not, aun_neg, lenStr_str, lenSl_nils, lenSl_sl, lenSl_osl, aextract_tup, ld1uelem, idxStr_str, amin2uint, amax2uint, rangeStr_str, sliceStr_from, sliceStr_to, List.getElem?_cons_zero, List.getElem?_cons_succ, Option.map_some, Option.bind_some, Int.toNat_natCast, Int.toNat_zero, Int.le_refl, Bool.not_true, Bool.not_false, Bool.not_not, Bool.false_eq_true, if_true, if_false, decide_eq_true_eq, beq_self_eq_true, bool_ft, bool_tf, decide_true, decide_false, reduceCtorEq, cmpNil, cmpRes, boxCells, AV.known, AV.cells, Nat.zero_add, and_self, and_true, true_and, ite_self, forall_const, not_true_eq_false, not_false_eq_true, e48]
          by_cases ht : t = []
          · subst ht
            have hn : number [48] = some (numOf [48]) := by decide
            have := h H1 hx1
            rw [hn] at this
            simp only [abin_i_add, abin_i_sub, abin_i_mul, abin_i_eql, abin_i_neq, abin_i_lss, abin_i_leq, abin_i_gtr, abin_i_geq, abin_s_eql, abin_s_neq, bnd_some, bnd_none, branch_bool, gwant_bool, gwant_nothing, aguard_some, wantE_some, pickV_bool, nilck_ptr, nilck_elem, aoff_ptr, aoff_elem, aun_not, aun_neg, lenStr_str, lenSl_nils, lenSl_sl, lenSl_osl, aextract_tup, ld1uelem, idxStr_str, amin2uint, amax2uint, rangeStr_str, sliceStr_from, sliceStr_to, List.getElem?_cons_zero, List.getElem?_cons_succ, Option.map_some, Option.bind_some, Int.toNat_natCast, Int.toNat_zero, Int.le_refl, Bool.not_true, Bool.not_false, Bool.not_not, Bool.false_eq_true, if_true, if_false, decide_eq_true_eq, beq_self_eq_true, bool_ft, bool_tf, decide_true, decide_false, reduceCtorEq, cmpNil, cmpRes, boxCells, AV.known, AV.cells, Nat.zero_add, and_self, and_true, true_and, ite_self, forall_const, not_true_eq_false, not_false_eq_true]
            refine at_ _ ?_
            simpa [cmpNil, cmpRes] using this
          · have e1 : (((48 : UInt8) :: t) == [48]) = false := by simpa using ht
            have hn : number ((48 : UInt8) :: t) = none := by
              simp only [number]
              rw [if_neg]
              rintro ⟨_, _, _, h5 | h5⟩
              · exact h5 rfl
              · simp at h5; exact ht h5
            simp only [abin_i_add, abin_i_sub, abin_i_mul, abin_i_eql, abin_i_neq, abin_i_lss, abin_i_leq, abin_i_gtr, abin_i_geq, abin_s_eql, abin_s_neq, bnd_some, bnd_none, branch_bool, gwant_bool, gwant_nothing, aguard_some, wantE_some, pickV_bool, nilck_ptr, nilck_elem, aoff_ptr, aoff_elem, aun_not, aun_neg, lenStr_str, lenSl_nils, lenSl_sl, lenSl_osl, aextract_tup, ld1uelem, idxStr_str, amin2uint, amax2uint, rangeStr_str, sliceStr_from, sliceStr_to, List.getElem?_cons_zero, List.getElem?_cons_succ, Option.map_some, Option.bind_some, Int.toNat_natCast, Int.toNat_zero, Int.le_refl, Bool.not_true, Bool.not_false, Bool.not_not, Bool.false_eq_true, if_true, if_false, decide_eq_true_eq, beq_self_eq_true, bool_ft, bool_tf, decide_true, decide_false, reduceCtorEq, cmpNil, cmpRes, boxCells, AV.known, AV.cells, Nat.zero_add, and_self, and_true, true_and, ite_self, forall_const, not_true_eq_false, not_false_eq_true, e1]
            exact no H1 hx1 hn
        · have e48 : ((c.toNat : Int) == 48) = false := by
            simp only [beq_eq_false_iff_ne, ne_eq]
            intro e
            have e' : c.toNat = (48 : UInt8).toNat := by have : (48 : UInt8).toNat = 48 := rfl
                                                         omega
            exact h48 (UInt8.toNat_inj.1 e')
          have hn : number (c :: t) = some (numOf (c :: t)) := by
            simp only [number]
            rw [if_pos ⟨h0, by omega, hd, .inl (by simpa using h48)⟩]
          have := h H1 hx1
          rw [hn] at this
          simp only [abin_i_add, abin_i_sub, abin_i_mul, abin_i_eql, abin_i_neq, abin_i_lss, abin_i_leq, abin_i_gtr, abin_i_geq, abin_s_eql, abin_s_neq, bnd_some, bnd_none, branch_bool, gwant_bool, gwant_nothing, aguard_some, wantE_some, pickV_bool, nilck_ptr, nilck_elem, aoff_ptr, aoff_elem, aun_not, aun_neg, lenStr_str, lenSl_nils, lenSl_sl, lenSl_osl, aextract_tup, ld1uelem, idxStr_str, amin2uint, amax2uint, rangeStr_str, sliceStr_from, sliceStr_to, List.getElem?_cons_zero, List.getElem?_cons_succ, Option.map_some, Option.bind_some, Int.toNat_natCast, Int.toNat_zero, Int.le_refl, Bool.not_true, Bool.not_false, Bool.not_not, Bool.false_eq_true, if_true, if_false, decide_eq_true_eq, beq_self_eq_true, bool_ft, bool_tf, decide_true, decide_false, reduceCtorEq, cmpNil, cmpRes, boxCells, AV.known, AV.cells, Nat.zero_add, and_self, and_true, true_and, ite_self, forall_const, not_true_eq_false, not_false_eq_true, e48]
          refine at_ _ ?_
          simpa [cmpNil, cmpRes] using this
      · have hn : number s = none := by
          simp only [number]
          rw [if_neg]
          rintro ⟨_, _, h5, _⟩; exact hd h5
        have hd' : s.all isDig = false := by simpa using hd
        have := no H1 hx1 hn
        simpa only [abin_i_add, abin_i_sub, abin_i_mul, abin_i_eql, abin_i_neq, abin_i_lss, abin_i_leq, abin_i_gtr, abin_i_geq, abin_s_eql, abin_s_neq, bnd_some, bnd_none, branch_bool, gwant_bool, gwant_nothing, aguard_some, wantE_some, pickV_bool, nilck_ptr, nilck_elem, aoff_ptr, aoff_elem, aun_not, aun_neg, lenStr_str, lenSl_nils, lenSl_sl, lenSl_osl, aextract_tup, ld1uelem, idxStr_str, amin2uint, amax2uint, rangeStr_str, sliceStr_from, sliceStr_to, List.getElem?_cons_zero, List.getElem?_cons_succ, Option.map_some, Option.bind_some, Int.toNat_natCast, Int.toNat_zero, Int.le_refl, Bool.not_true, Bool.not_false, Bool.not_not, Bool.false_eq_true, if_true, if_false, decide_eq_true_eq, beq_self_eq_true, bool_ft, bool_tf, decide_true, decide_false, reduceCtorEq, cmpNil, cmpRes, boxCells, AV.known, AV.cells, Nat.zero_add, and_self, and_true, true_and, ite_self, forall_const, not_true_eq_false, not_false_eq_true, hd'] using this
theorem c_name_Right (s : Bs) (hs : s.length ≤ 9223372036854775807) {H : AH} {K : AV → AH → Prop} (h : ∀ H', Ext H H' → K (.bool (s != [] && decide (s.length ≤ 8) && s.all isNm)) H') : r_name_Right [.str s] H K := by
  simp only [r_name_Right, abin_s_neq, bnd_some, gwant_bool, aguard_some, lenStr_str, abin_i_leq, pickV_bool]
  by_cases h0 : s = []
  · have := h H (Ext.refl H)
    subst h0
    simpa using this
  · have e0 : (s == []) = false := by simpa using h0
    simp only [e0, Bool.not_false, beq_self_eq_true, if_true]
    by_cases h8 : s.length ≤ 8
    · have e8 : decide ((s.length : Int) ≤ 8) = true := by simp; omega
      simp only [e8, beq_self_eq_true, if_true]
      refine c_strings_Trim s nameSet (by decide) (by decide) (by decide) hs fun H1 hx1 => ?_
      have := h H1 hx1
      have h0' : (s != []) = true := by simpa using h0
      simp only [h0', h8, abin_i_add, abin_i_sub, abin_i_mul, abin_i_eql, abin_i_neq, abin_i_lss, abin_i_leq, abin_i_gtr, abin_i_geq, abin_s_eql, abin_s_neq, bnd_some, bnd_none, branch_bool, gwant_bool, gwant_nothing, aguard_some, wantE_some, pickV_bool, nilck_ptr, nilck_elem, aoff_ptr, aoff_elem, aun_not, aun_neg, lenStr_str, lenSl_nils, lenSl_sl, lenSl_osl, aextract_tup, ld1uelem, idxStr_str, amin2uint, amax2uint, rangeStr_str, sliceStr_from, sliceStr_to, List.getElem?_cons_zero, List.getElem?_cons_succ, Option.map_some, Option.bind_some, Int.toNat_natCast, Int.toNat_zero, Int.le_refl, Bool.not_true, Bool.not_false, Bool.not_not, Bool.false_eq_true, if_true, if_false, decide_eq_true_eq, beq_self_eq_true, bool_ft, bool_tf, decide_true, decide_false, reduceCtorEq, cmpNil, cmpRes, boxCells, AV.known, AV.cells, Nat.zero_add, and_self, and_true, true_and, ite_self, forall_const, not_true_eq_false, not_false_eq_true, Bool.true_and] at this
      simpa only [abin_i_add, abin_i_sub, abin_i_mul, abin_i_eql, abin_i_neq, abin_i_lss, abin_i_leq, abin_i_gtr, abin_i_geq, abin_s_eql, abin_s_neq, bnd_some, bnd_none, branch_bool, gwant_bool, gwant_nothing, aguard_some, wantE_some, pickV_bool, nilck_ptr, nilck_elem, aoff_ptr, aoff_elem, aun_not, aun_neg, lenStr_str, lenSl_nils, lenSl_sl, lenSl_osl, aextract_tup, ld1uelem, idxStr_str, amin2uint, amax2uint, rangeStr_str, sliceStr_from, sliceStr_to, List.getElem?_cons_zero, List.getElem?_cons_succ, Option.map_some, Option.bind_some, Int.toNat_natCast, Int.toNat_zero, Int.le_refl, Bool.not_true, Bool.not_false, Bool.not_not, Bool.false_eq_true, if_true, if_false, decide_eq_true_eq, beq_self_eq_true, bool_ft, bool_tf, decide_true, decide_false, reduceCtorEq, cmpNil, cmpRes, boxCells, AV.known, AV.cells, Nat.zero_add, and_self, and_true, true_and, ite_self, forall_const, not_true_eq_false, not_false_eq_true, trim_names] using this
    · have e8 : decide ((s.length : Int) ≤ 8) = false := by simp; omega
      have := h H (Ext.refl H)
      simpa [e8, h8] using this
end Go.Va

/-
  Contracts: messages.
-/
set_option linter.unusedVariables false
set_option linter.unusedSimpArgs false
set_option maxRecDepth 100000
namespace Go.Va
-- ---------------------------------------------------------------- the model's words
structure Item where
  t : Bs
  a : Nat
  b : Nat
  deriving DecidableEq
structure Msg where
  kind : Int := 0
  f : Bs := []
  e : Bs := []
  t : Bs := []
  n : Int := 0
  state : Int := 0
  num : Int := 0
  epoch : Int := 0
  items : List Item := []
  deriving DecidableEq
structure Step where
  kind : Int := 0
  msg : Msg := {}
  n : Int := 0
  m : Int := 0
  deriving DecidableEq
def encItem (i : Item) : AV := .agg [.str i.t, .cplx .f64 (fl i.a) (fl i.b)]
/-- a slice that holds a list's elements -/
def IsSl {α : Type} (sz : Nat) (enc : α → AV) (v : AV) (l : List α) : Prop := (v = .nils ∧ l = []) ∨ ∃ g, v = .sl g sz (l.map enc)
abbrev IsItems := IsSl 2 encItem
def ItemSmall (i : Item) : Prop := i.a < 9007199254740992 ∧ i.b < 9007199254740992 ∧ i.t.length ≤ 1000000000
def ItemsSmall (l : List Item) : Prop := l.length ≤ 1000000000 ∧ ∀ i ∈ l, ItemSmall i
def msgCells (m : Msg) (iv : AV) : List AV := [.int .i64 m.kind, .str m.f, .str m.e, .str m.t, .int .i64 m.n, .int .i64 m.state, .int .i64 m.num, .int .i64 m.epoch, iv]
def stepCells (s : Step) (iv : AV) : List AV := .int .i64 s.kind :: msgCells s.msg iv ++ [.int .i64 s.n, .int .i64 s.m]

def rightN (s : Bs) : Bool := s != [] && decide (s.length ≤ 8) && s.all isNm
def fieldsOf (k : Int) : Bs :=
  if k = 1 then [70, 69, 73] else if k = 2 then [70, 84] else if k = 3 then [70] else if k = 4 then [70, 84, 85, 80] else if k = 5 then [70, 73] else if k = 6 then [] else
  if k = 7 ∨ k = 9 ∨ k = 13 ∨ k = 16 ∨ k = 17 then [70, 69, 78] else if k = 8 then [70, 69, 78, 84, 83] else if k = 10 then [80] else if k = 11 then [70, 84, 85, 80, 83] else if k = 12 then [70, 84, 83] else
  if k = 14 then [70, 69, 78, 73] else if k = 15 then [70, 69, 78, 84] else [63]
def needOk (a b : Nat) : Bool := !(a == 0 && b == 0) && decide (a ≤ 1000) && decide (b ≤ 1000)
def allNames (l : List Bs) : Bool := l.all rightN && decide l.Nodup
def listOk (kind : Int) (l : List Item) : Bool :=
  allNames (l.map (·.t)) && decide (l.length ≤ 4) &&
  (if kind = 5 then l.all (fun i => i.a == 0 && i.b == 0) else l.all (fun i => needOk i.a i.b) && (decide (l.length = 1) || decide (kind = 1) && decide (0 < l.length)))
def textOk (fs : Bs) (f : UInt8) (s : Bs) : Bool := if fs.contains f then rightN s else s == []
def numberOk (f : UInt8) (n : Int) : Bool := if f = 83 then decide (1 ≤ n) && decide (n ≤ 7) else decide (1 ≤ n) && decide (n ≤ 2147483647)
def numOk (fs : Bs) (f : UInt8) (n : Int) : Bool := if fs.contains f then numberOk f n else n == 0
def checkM (m : Msg) : Bool :=
  let fs := fieldsOf m.kind
  fs != [63] && (textOk fs 70 m.f && textOk fs 69 m.e && textOk fs 84 m.t) && (numOk fs 78 m.n && numOk fs 83 m.state && numOk fs 85 m.num && numOk fs 80 m.epoch) &&
  (if fs.contains 73 then listOk m.kind m.items else m.items.isEmpty)

-- ---------------------------------------------------------------- needs
theorem c_need_within (a b m : Nat) (ha : a < 9007199254740992) (hb : b < 9007199254740992) (hm : m < 9007199254740992) {H : AH} {K : AV → AH → Prop} (h : K (.bool (decide (a ≤ m) && decide (b ≤ m))) H) :
    r_need_within [.cplx .f64 (fl a) (fl b), .int .i64 m] H K := by
  simp only [r_need_within, areal, abin_i_add, abin_i_sub, abin_i_mul, abin_i_eql, abin_i_neq, abin_i_lss, abin_i_leq, abin_i_gtr, abin_i_geq, abin_s_eql, abin_s_neq, bnd_some, bnd_none, branch_bool, gwant_bool, gwant_nothing, aguard_some, wantE_some, pickV_bool, nilck_ptr, nilck_elem, aoff_ptr, aoff_elem, aun_not, aun_neg, lenStr_str, lenSl_nils, lenSl_sl, lenSl_osl, aextract_tup, ld1uelem, idxStr_str, amin2uint, amax2uint, rangeStr_str, sliceStr_from, sliceStr_to, List.getElem?_cons_zero, List.getElem?_cons_succ, Option.map_some, Option.bind_some, Int.toNat_natCast, Int.toNat_zero, Int.le_refl, Bool.not_true, Bool.not_false, Bool.not_not, Bool.false_eq_true, if_true, if_false, decide_eq_true_eq, beq_self_eq_true, bool_ft, bool_tf, decide_true, decide_false, reduceCtorEq, cmpNil, cmpRes, boxCells, AV.known, AV.cells, Nat.zero_add, and_self, and_true, true_and, ite_self, forall_const, not_true_eq_false, not_false_eq_true, aimag]
  refine c_need_part a m ha hm ?_
  simp only [abin_i_add, abin_i_sub, abin_i_mul, abin_i_eql, abin_i_neq, abin_i_lss, abin_i_leq, abin_i_gtr, abin_i_geq, abin_s_eql, abin_s_neq, bnd_some, bnd_none, branch_bool, gwant_bool, gwant_nothing, aguard_some, wantE_some, pickV_bool, nilck_ptr, nilck_elem, aoff_ptr, aoff_elem, aun_not, aun_neg, lenStr_str, lenSl_nils, lenSl_sl, lenSl_osl, aextract_tup, ld1uelem, idxStr_str, amin2uint, amax2uint, rangeStr_str, sliceStr_from, sliceStr_to, List.getElem?_cons_zero, List.getElem?_cons_succ, Option.map_some, Option.bind_some, Int.toNat_natCast, Int.toNat_zero, Int.le_refl, Bool.not_true, Bool.not_false, Bool.not_not, Bool.false_eq_true, if_true, if_false, decide_eq_true_eq, beq_self_eq_true, bool_ft, bool_tf, decide_true, decide_false, reduceCtorEq, cmpNil, cmpRes, boxCells, AV.known, AV.cells, Nat.zero_add, and_self, and_true, true_and, ite_self, forall_const, not_true_eq_false, not_false_eq_true]
  by_cases h1 : a ≤ m
  · simp only [h1, abin_i_add, abin_i_sub, abin_i_mul, abin_i_eql, abin_i_neq, abin_i_lss, abin_i_leq, abin_i_gtr, abin_i_geq, abin_s_eql, abin_s_neq, bnd_some, bnd_none, branch_bool, gwant_bool, gwant_nothing, aguard_some, wantE_some, pickV_bool, nilck_ptr, nilck_elem, aoff_ptr, aoff_elem, aun_not, aun_neg, lenStr_str, lenSl_nils, lenSl_sl, lenSl_osl, aextract_tup, ld1uelem, idxStr_str, amin2uint, amax2uint, rangeStr_str, sliceStr_from, sliceStr_to, List.getElem?_cons_zero, List.getElem?_cons_succ, Option.map_some, Option.bind_some, Int.toNat_natCast, Int.toNat_zero, Int.le_refl, Bool.not_true, Bool.not_false, Bool.not_not, Bool.false_eq_true, if_true, if_false, decide_eq_true_eq, beq_self_eq_true, bool_ft, bool_tf, decide_true, decide_false, reduceCtorEq, cmpNil, cmpRes, boxCells, AV.known, AV.cells, Nat.zero_add, and_self, and_true, true_and, ite_self, forall_const, not_true_eq_false, not_false_eq_true]
    refine c_need_part b m hb hm ?_
    simpa [h1] using h
  · simpa [h1] using h
theorem cplx_zero {P : Program} {t : TypeId} (a b : Nat) (ha : a < 9007199254740992) (hb : b < 9007199254740992) : abin P .neq t (.cplx .f64 (fl a) (fl b)) (.cplx .f64 0 0) = some (.bool !(a == 0 && b == 0)) := by
  have e0 := floatEqv_fl a 0 ha (by omega)
  have e1 := floatEqv_fl b 0 hb (by omega)
  rw [fl_zero] at e0 e1
  simp only [abin, if_true, cplxOp, e0, e1]
  congr 2
theorem c_need_Right (a b : Nat) (ha : a < 9007199254740992) (hb : b < 9007199254740992) {H : AH} {K : AV → AH → Prop} (h : K (.bool (needOk a b)) H) : r_need_Right [.cplx .f64 (fl a) (fl b)] H K := by
  simp only [r_need_Right, cplx_zero a b ha hb, abin_i_add, abin_i_sub, abin_i_mul, abin_i_eql, abin_i_neq, abin_i_lss, abin_i_leq, abin_i_gtr, abin_i_geq, abin_s_eql, abin_s_neq, bnd_some, bnd_none, branch_bool, gwant_bool, gwant_nothing, aguard_some, wantE_some, pickV_bool, nilck_ptr, nilck_elem, aoff_ptr, aoff_elem, aun_not, aun_neg, lenStr_str, lenSl_nils, lenSl_sl, lenSl_osl, aextract_tup, ld1uelem, idxStr_str, amin2uint, amax2uint, rangeStr_str, sliceStr_from, sliceStr_to, List.getElem?_cons_zero, List.getElem?_cons_succ, Option.map_some, Option.bind_some, Int.toNat_natCast, Int.toNat_zero, Int.le_refl, Bool.not_true, Bool.not_false, Bool.not_not, Bool.false_eq_true, if_true, if_false, decide_eq_true_eq, beq_self_eq_true, bool_ft, bool_tf, decide_true, decide_false, reduceCtorEq, cmpNil, cmpRes, boxCells, AV.known, AV.cells, Nat.zero_add, and_self, and_true, true_and, ite_self, forall_const, not_true_eq_false, not_false_eq_true]
  by_cases h0 : (a == 0 && b == 0) = true
  · simp only [needOk, h0] at h
    simpa [h0] using h
  · have h0' : (a == 0 && b == 0) = false := by simpa using h0
    simp only [h0', abin_i_add, abin_i_sub, abin_i_mul, abin_i_eql, abin_i_neq, abin_i_lss, abin_i_leq, abin_i_gtr, abin_i_geq, abin_s_eql, abin_s_neq, bnd_some, bnd_none, branch_bool, gwant_bool, gwant_nothing, aguard_some, wantE_some, pickV_bool, nilck_ptr, nilck_elem, aoff_ptr, aoff_elem, aun_not, aun_neg, lenStr_str, lenSl_nils, lenSl_sl, lenSl_osl, aextract_tup, ld1uelem, idxStr_str, amin2uint, amax2uint, rangeStr_str, sliceStr_from, sliceStr_to, List.getElem?_cons_zero, List.getElem?_cons_succ, Option.map_some, Option.bind_some, Int.toNat_natCast, Int.toNat_zero, Int.le_refl, Bool.not_true, Bool.not_false, Bool.not_not, Bool.false_eq_true, if_true, if_false, decide_eq_true_eq, beq_self_eq_true, bool_ft, bool_tf, decide_true, decide_false, reduceCtorEq, cmpNil, cmpRes, boxCells, AV.known, AV.cells, Nat.zero_add, and_self, and_true, true_and, ite_self, forall_const, not_true_eq_false, not_false_eq_true]
    refine c_need_within a b 1000 ha hb (by omega) ?_
    simp only [needOk, h0', Bool.not_false, Bool.true_and] at h
    simpa using h

-- ---------------------------------------------------------------- kinds and fields
theorem c_message_Fields (k : Int) {H : AH} {K : AV → AH → Prop} (h : K (.str (fieldsOf k)) H) : r_message_Fields [.int .i64 k] H K := by
  simp only [r_message_Fields, abin_i_add, abin_i_sub, abin_i_mul, abin_i_eql, abin_i_neq, abin_i_lss, abin_i_leq, abin_i_gtr, abin_i_geq, abin_s_eql, abin_s_neq, bnd_some, bnd_none, branch_bool, gwant_bool, gwant_nothing, aguard_some, wantE_some, pickV_bool, nilck_ptr, nilck_elem, aoff_ptr, aoff_elem, aun_not, aun_neg, lenStr_str, lenSl_nils, lenSl_sl, lenSl_osl, aextract_tup, ld1uelem, idxStr_str, amin2uint, amax2uint, rangeStr_str, sliceStr_from, sliceStr_to, List.getElem?_cons_zero, List.getElem?_cons_succ, Option.map_some, Option.bind_some, Int.toNat_natCast, Int.toNat_zero, Int.le_refl, Bool.not_true, Bool.not_false, Bool.not_not, Bool.false_eq_true, if_true, if_false, decide_eq_true_eq, beq_self_eq_true, bool_ft, bool_tf, decide_true, decide_false, reduceCtorEq, cmpNil, cmpRes, boxCells, AV.known, AV.cells, Nat.zero_add, and_self, and_true, true_and, ite_self, forall_const, not_true_eq_false, not_false_eq_true, r_message_Fields_p221183]
  by_cases h1 : k = 1
  · subst h1; simpa [fieldsOf] using h
  by_cases h2 : k = 2
  · subst h2; simpa [fieldsOf] using h
  by_cases h3 : k = 3
  · subst h3; simpa [fieldsOf] using h
  by_cases h4 : k = 4
  · subst h4; simpa [fieldsOf] using h
  by_cases h5 : k = 5
  · subst h5; simpa [fieldsOf] using h
  by_cases h6 : k = 6
  · subst h6; simpa [fieldsOf] using h
  by_cases h7 : k = 7
  · subst h7; simpa [fieldsOf] using h
  by_cases h9 : k = 9
  · subst h9; simpa [fieldsOf] using h
  by_cases h13 : k = 13
  · subst h13; simpa [fieldsOf] using h
  by_cases h16 : k = 16
  · subst h16; simpa [fieldsOf] using h
  by_cases h17 : k = 17
  · subst h17; simpa [fieldsOf] using h
  by_cases h8 : k = 8
  · subst h8; simpa [fieldsOf] using h
  by_cases h10 : k = 10
  · subst h10; simpa [fieldsOf] using h
  by_cases h11 : k = 11
  · subst h11; simpa [fieldsOf] using h
  by_cases h12 : k = 12
  · subst h12; simpa [fieldsOf] using h
  by_cases h14 : k = 14
  · subst h14; simpa [fieldsOf] using h
  by_cases h15 : k = 15
  · subst h15; simpa [fieldsOf] using h
  simpa [fieldsOf, h1, h2, h3, h4, h5, h6, h7, h9, h13, h16, h17, h8, h10, h11, h12, h14, h15] using h
theorem fieldsOf_small (k : Int) : ∀ c ∈ fieldsOf k, c.toNat < 128 := by
  have : (fieldsOf k).all (fun c => decide (c.toNat < 128)) = true := by
    by_cases h1 : k = 1
    · subst h1; decide
    by_cases h2 : k = 2
    · subst h2; decide
    by_cases h3 : k = 3
    · subst h3; decide
    by_cases h4 : k = 4
    · subst h4; decide
    by_cases h5 : k = 5
    · subst h5; decide
    by_cases h6 : k = 6
    · subst h6; decide
    by_cases h7 : k = 7
    · subst h7; decide
    by_cases h9 : k = 9
    · subst h9; decide
    by_cases h13 : k = 13
    · subst h13; decide
    by_cases h16 : k = 16
    · subst h16; decide
    by_cases h17 : k = 17
    · subst h17; decide
    by_cases h8 : k = 8
    · subst h8; decide
    by_cases h10 : k = 10
    · subst h10; decide
    by_cases h11 : k = 11
    · subst h11; decide
    by_cases h12 : k = 12
    · subst h12; decide
    by_cases h14 : k = 14
    · subst h14; decide
    by_cases h15 : k = 15
    · subst h15; decide
    simp [fieldsOf, h1, h2, h3, h4, h5, h6, h7, h9, h13, h16, h17, h8, h10, h11, h12, h14, h15]
  intro c hc
  simpa using List.all_eq_true.1 this c hc
-- ---------------------------------------------------------------- sets of texts
theorem afind_strs (s : Bs) : ∀ (es : List AEnt) (seen : List Bs) (i : Nat), es.map (·.key) = seen.map .str → (s ∉ seen → afind (.one .str) (.str s) es i = some none) ∧ (s ∈ seen → ∃ j, ∃ e ∈ es, afind (.one .str) (.str s) es i = some (some (j, e.val)))
  | [], seen, i, h => by
    have : seen = [] := by cases seen with
      | nil => rfl
      | cons _ _ => simp at h
    subst this
    exact ⟨fun _ => rfl, fun h => by simp at h⟩
  | e :: es, seen, i, h => by
    obtain ⟨k, seen, rfl⟩ : ∃ k l, seen = k :: l := by cases seen with
      | nil => simp at h
      | cons k l => exact ⟨k, l, rfl⟩
    simp only [List.map_cons, List.cons.injEq] at h
    obtain ⟨hk, ht⟩ := h
    have ih := afind_strs s es seen (i + 1) ht
    simp only [afind, keySame, hk, same1]
    by_cases hs : s = k
    · subst hs
      simp only [beq_self_eq_true]
      exact ⟨fun hn => absurd (List.mem_cons_self ..) hn, fun _ => ⟨i, e, List.mem_cons_self .., rfl⟩⟩
    · have hsb : (s == k) = false := by simpa using hs
      simp only [hsb]
      refine ⟨fun hn => ih.1 (fun hm => hn (List.mem_cons_of_mem _ hm)), fun hm => ?_⟩
      rcases List.mem_cons.1 hm with rfl | hm
      · exact absurd rfl hs
      · obtain ⟨j, e', he', h'⟩ := ih.2 hm
        exact ⟨j, e', List.mem_cons_of_mem _ he', h'⟩
/-- object r is the set of these texts -/
def IsSet (H : AH) (r : Nat) (seen : List Bs) : Prop := ∃ es c, H.get r = some (.map es c) ∧ es.map (·.key) = seen.map .str ∧ ∀ e ∈ es, e.val = .bool true
theorem look_set {H : AH} {r : Nat} {seen : List Bs} (h : IsSet H r seen) (s : Bs) : look (.one .str) (.bool false) (.map r) (.str s) false H = some (.bool (seen.contains s)) := by
  obtain ⟨es, c, h1, h2, h3⟩ := h
  have := afind_strs s es seen 0 h2
  simp only [look, keyIs, if_true, ments, h1, Option.bind_some]
  by_cases hs : s ∈ seen
  · obtain ⟨j, e, he, ha⟩ := this.2 hs
    simp [ha, lookRes, h3 e he, hs]
  · simp [this.1 hs, lookRes, hs]
theorem mput_set {H : AH} {r : Nat} {seen : List Bs} (h : IsSet H r seen) {s : Bs} (hs : s ∉ seen) : ∃ x, mput (.one .str) (.map r) (.str s) (.bool true) H = some (H.put r x) ∧ IsSet (H.put r x) r (seen ++ [s]) := by
  obtain ⟨es, c, h1, h2, h3⟩ := h
  have := (afind_strs s es seen 0 h2).1 hs
  refine ⟨.map (es ++ [⟨.str s, .bool true, c⟩]) (c + 1), by simp [mput, keyIs, h1, this], es ++ [⟨.str s, .bool true, c⟩], c + 1, get_put_self _ _ _, by simp [h2], ?_⟩
  intro e he
  rcases List.mem_append.1 he with he | he
  · exact h3 e he
  · simp at he; subst he; rfl
theorem allNames_cons (s : Bs) (l : List Bs) : True := trivial
/-- what name.All goes through -/
def allGo : List Bs → List Bs → Bool
  | _, [] => true
  | seen, s :: l => rightN s && !seen.contains s && allGo (seen ++ [s]) l
theorem allGo_spec : ∀ (l seen : List Bs), allGo seen l = (l.all rightN && decide l.Nodup && l.all (fun s => !seen.contains s))
  | [], seen => by simp [allGo]
  | s :: l, seen => by
    rw [allGo, allGo_spec l (seen ++ [s])]
    rw [Bool.eq_iff_iff]
    simp only [List.all_cons, Bool.and_eq_true, List.nodup_cons, decide_eq_true_eq, List.all_eq_true, Bool.not_eq_true', List.contains_eq_mem, decide_eq_false_iff_not, List.mem_append, List.mem_singleton, not_or]
    constructor
    · rintro ⟨⟨h1, h2⟩, ⟨h3, h4⟩, h5⟩
      exact ⟨⟨⟨h1, h3⟩, fun hm => (h5 s hm).2 rfl, h4⟩, h2, fun x hx => (h5 x hx).1⟩
    · rintro ⟨⟨⟨h1, h3⟩, h6, h4⟩, h2, h5⟩
      exact ⟨⟨h1, h2⟩, ⟨h3, h4⟩, fun x hx => ⟨h5 x hx, fun e => h6 (e ▸ hx)⟩⟩
theorem allGo_nil (l : List Bs) : allGo [] l = allNames l := by rw [allGo_spec, allNames]; simp

theorem Ext.get_lt {H H' : AH} (h : Ext H H') {o : Nat} {x : AObj} (ho : o < H.next) (hg : H.get o = some x) : H'.get o = some x := by rw [h.get o ho]; exact hg
theorem IsSet.ext {H H' : AH} {r : Nat} {seen : List Bs} (h : IsSet H r seen) (hx : Ext H H') (hr : r < H.next) : IsSet H' r seen := by
  obtain ⟨es, c, h1, h2⟩ := h
  exact ⟨es, c, hx.get_lt hr h1, h2⟩
theorem c_All_loop (ws : List Bs) (hsm : ∀ w ∈ ws, w.length ≤ 1000000000) (hl : ws.length ≤ 1000000000) {g : Grow} {H0 : AH} {K : AV → AH → Prop} (h : ∀ H', Ext H0 H' → K (.bool (allNames ws)) H') :
    ∀ (r : List Bs) (i : Nat) (seen : List Bs) (m : Nat) (H : AH), ws.drop i = r → allGo seen r = allNames ws → H0.next ≤ m → m < H.next → Ext H0 H → IsSet H m seen →
    LoopP (r_name_All_p116 K) [.map m, .sl g 1 (ws.map .str), .int .i64 ws.length, .int .i64 i] H
  | [], i, seen, m, H, hr, hg, hm, hmn, hx, hs => by
    refine .fold ?_
    have hi : ws.length ≤ i := by simpa using hr
    have hlt : ¬ ((i : Int) < (ws.length : Int)) := by omega
    have := h H hx
    rw [← hg] at this
    simpa [r_name_All_p116, hlt, allGo] using this
  | w :: r, i, seen, m, H, hr, hg, hm, hmn, hx, hs => by
    refine .fold ?_
    have hw : ws[i]? = some w := by
      have := congrArg (fun l => l[0]?) hr
      simpa using this
    have hlt : i < ws.length := (List.getElem?_eq_some_iff.1 hw).1
    have hr' : ws.drop (i + 1) = r := by rw [← List.drop_drop, hr]; rfl
    have h1 : ((i : Int) < (ws.length : Int)) := by omega
    have h2 : (0 : Int) ≤ (i : Int) := by omega
    have hww : IntKind.i64.wrap ((i : Int) + 1) = ((i + 1 : Nat) : Int) := by rw [wrap_i64 (by omega) (by omega)]; omega
    have hgi : (ws.map AV.str)[i]? = some (.str w) := by simp [hw]
    have hwl := hsm w (List.mem_of_getElem? hw)
    simp only [r_name_All_p116, abin_i_add, abin_i_sub, abin_i_mul, abin_i_eql, abin_i_neq, abin_i_lss, abin_i_leq, abin_i_gtr, abin_i_geq, abin_s_eql, abin_s_neq, bnd_some, bnd_none, branch_bool, gwant_bool, gwant_nothing, aguard_some, wantE_some, pickV_bool, nilck_ptr, nilck_elem, aoff_ptr, aoff_elem, aun_not, aun_neg, lenStr_str, lenSl_nils, lenSl_sl, lenSl_osl, aextract_tup, ld1uelem, idxStr_str, amin2uint, amax2uint, rangeStr_str, sliceStr_from, sliceStr_to, List.getElem?_cons_zero, List.getElem?_cons_succ, Option.map_some, Option.bind_some, Int.toNat_natCast, Int.toNat_zero, Int.le_refl, Bool.not_true, Bool.not_false, Bool.not_not, Bool.false_eq_true, if_true, if_false, decide_eq_true_eq, beq_self_eq_true, bool_ft, bool_tf, decide_true, decide_false, reduceCtorEq, cmpNil, cmpRes, boxCells, AV.known, AV.cells, Nat.zero_add, and_self, and_true, true_and, ite_self, forall_const, not_true_eq_false, not_false_eq_true, h1, idxA, h2, hgi]
    refine c_name_Right w (by omega) fun H1 hx1 => ?_
    have hs1 := hs.ext hx1 hmn
    simp only [abin_i_add, abin_i_sub, abin_i_mul, abin_i_eql, abin_i_neq, abin_i_lss, abin_i_leq, abin_i_gtr, abin_i_geq, abin_s_eql, abin_s_neq, bnd_some, bnd_none, branch_bool, gwant_bool, gwant_nothing, aguard_some, wantE_some, pickV_bool, nilck_ptr, nilck_elem, aoff_ptr, aoff_elem, aun_not, aun_neg, lenStr_str, lenSl_nils, lenSl_sl, lenSl_osl, aextract_tup, ld1uelem, idxStr_str, amin2uint, amax2uint, rangeStr_str, sliceStr_from, sliceStr_to, List.getElem?_cons_zero, List.getElem?_cons_succ, Option.map_some, Option.bind_some, Int.toNat_natCast, Int.toNat_zero, Int.le_refl, Bool.not_true, Bool.not_false, Bool.not_not, Bool.false_eq_true, if_true, if_false, decide_eq_true_eq, beq_self_eq_true, bool_ft, bool_tf, decide_true, decide_false, reduceCtorEq, cmpNil, cmpRes, boxCells, AV.known, AV.cells, Nat.zero_add, and_self, and_true, true_and, ite_self, forall_const, not_true_eq_false, not_false_eq_true, look_set hs1]
    have e : (w != [] && decide (w.length ≤ 8) && w.all isNm) = rightN w := rfl
    rw [e]
    simp only [allGo] at hg
    cases hrw : rightN w with
    | false =>
      rw [hrw] at hg
      have := h H1 (hx.trans hx1)
      rw [← hg] at this
      simpa using this
    | true =>
      simp only [abin_i_add, abin_i_sub, abin_i_mul, abin_i_eql, abin_i_neq, abin_i_lss, abin_i_leq, abin_i_gtr, abin_i_geq, abin_s_eql, abin_s_neq, bnd_some, bnd_none, branch_bool, gwant_bool, gwant_nothing, aguard_some, wantE_some, pickV_bool, nilck_ptr, nilck_elem, aoff_ptr, aoff_elem, aun_not, aun_neg, lenStr_str, lenSl_nils, lenSl_sl, lenSl_osl, aextract_tup, ld1uelem, idxStr_str, amin2uint, amax2uint, rangeStr_str, sliceStr_from, sliceStr_to, List.getElem?_cons_zero, List.getElem?_cons_succ, Option.map_some, Option.bind_some, Int.toNat_natCast, Int.toNat_zero, Int.le_refl, Bool.not_true, Bool.not_false, Bool.not_not, Bool.false_eq_true, if_true, if_false, decide_eq_true_eq, beq_self_eq_true, bool_ft, bool_tf, decide_true, decide_false, reduceCtorEq, cmpNil, cmpRes, boxCells, AV.known, AV.cells, Nat.zero_add, and_self, and_true, true_and, ite_self, forall_const, not_true_eq_false, not_false_eq_true]
      by_cases hse : seen.contains w = true
      · rw [hrw, hse] at hg
        have := h H1 (hx.trans hx1)
        rw [← hg] at this
        simp only [hse, abin_i_add, abin_i_sub, abin_i_mul, abin_i_eql, abin_i_neq, abin_i_lss, abin_i_leq, abin_i_gtr, abin_i_geq, abin_s_eql, abin_s_neq, bnd_some, bnd_none, branch_bool, gwant_bool, gwant_nothing, aguard_some, wantE_some, pickV_bool, nilck_ptr, nilck_elem, aoff_ptr, aoff_elem, aun_not, aun_neg, lenStr_str, lenSl_nils, lenSl_sl, lenSl_osl, aextract_tup, ld1uelem, idxStr_str, amin2uint, amax2uint, rangeStr_str, sliceStr_from, sliceStr_to, List.getElem?_cons_zero, List.getElem?_cons_succ, Option.map_some, Option.bind_some, Int.toNat_natCast, Int.toNat_zero, Int.le_refl, Bool.not_true, Bool.not_false, Bool.not_not, Bool.false_eq_true, if_true, if_false, decide_eq_true_eq, beq_self_eq_true, bool_ft, bool_tf, decide_true, decide_false, reduceCtorEq, cmpNil, cmpRes, boxCells, AV.known, AV.cells, Nat.zero_add, and_self, and_true, true_and, ite_self, forall_const, not_true_eq_false, not_false_eq_true]
        simpa using this
      · have hse' : seen.contains w = false := by simpa using hse
        obtain ⟨x, hp1, hp2⟩ := mput_set hs1 (s := w) (by simpa using hse')
        simp only [hse', abin_i_add, abin_i_sub, abin_i_mul, abin_i_eql, abin_i_neq, abin_i_lss, abin_i_leq, abin_i_gtr, abin_i_geq, abin_s_eql, abin_s_neq, bnd_some, bnd_none, branch_bool, gwant_bool, gwant_nothing, aguard_some, wantE_some, pickV_bool, nilck_ptr, nilck_elem, aoff_ptr, aoff_elem, aun_not, aun_neg, lenStr_str, lenSl_nils, lenSl_sl, lenSl_osl, aextract_tup, ld1uelem, idxStr_str, amin2uint, amax2uint, rangeStr_str, sliceStr_from, sliceStr_to, List.getElem?_cons_zero, List.getElem?_cons_succ, Option.map_some, Option.bind_some, Int.toNat_natCast, Int.toNat_zero, Int.le_refl, Bool.not_true, Bool.not_false, Bool.not_not, Bool.false_eq_true, if_true, if_false, decide_eq_true_eq, beq_self_eq_true, bool_ft, bool_tf, decide_true, decide_false, reduceCtorEq, cmpNil, cmpRes, boxCells, AV.known, AV.cells, Nat.zero_add, and_self, and_true, true_and, ite_self, forall_const, not_true_eq_false, not_false_eq_true, hp1, hww]
        rw [hrw, hse'] at hg
        simp only [Bool.not_false, Bool.true_and] at hg
        exact c_All_loop ws hsm hl h r (i + 1) (seen ++ [w]) m _ hr' hg hm (by simpa using Nat.lt_of_lt_of_le hmn hx1.next) ((hx.trans hx1).put hm _) hp2
theorem c_name_All (ws : List Bs) (hsm : ∀ w ∈ ws, w.length ≤ 1000000000) (hl : ws.length ≤ 1000000000) {v : AV} (hv : IsSl 1 .str v ws) {H : AH} {K : AV → AH → Prop} (h : ∀ H', Ext H H' → K (.bool (allNames ws)) H') : r_name_All [v] H K := by
  have hset : IsSet (H.add (.map [] 0)) H.next [] := ⟨[], 0, get_add_self _ _, rfl, fun e he => by simp at he⟩
  rcases hv with ⟨rfl, rfl⟩ | ⟨g, rfl⟩
  · simp only [r_name_All, abin_i_add, abin_i_sub, abin_i_mul, abin_i_eql, abin_i_neq, abin_i_lss, abin_i_leq, abin_i_gtr, abin_i_geq, abin_s_eql, abin_s_neq, bnd_some, bnd_none, branch_bool, gwant_bool, gwant_nothing, aguard_some, wantE_some, pickV_bool, nilck_ptr, nilck_elem, aoff_ptr, aoff_elem, aun_not, aun_neg, lenStr_str, lenSl_nils, lenSl_sl, lenSl_osl, aextract_tup, ld1uelem, idxStr_str, amin2uint, amax2uint, rangeStr_str, sliceStr_from, sliceStr_to, List.getElem?_cons_zero, List.getElem?_cons_succ, Option.map_some, Option.bind_some, Int.toNat_natCast, Int.toNat_zero, Int.le_refl, Bool.not_true, Bool.not_false, Bool.not_not, Bool.false_eq_true, if_true, if_false, decide_eq_true_eq, beq_self_eq_true, bool_ft, bool_tf, decide_true, decide_false, reduceCtorEq, cmpNil, cmpRes, boxCells, AV.known, AV.cells, Nat.zero_add, and_self, and_true, true_and, ite_self, forall_const, not_true_eq_false, not_false_eq_true]
    refine .fold ?_
    have := h _ ((Ext.refl H).add (.map [] 0))
    have e : allNames [] = true := rfl
    rw [e] at this
    simpa [r_name_All_p116] using this
  · simp only [r_name_All, abin_i_add, abin_i_sub, abin_i_mul, abin_i_eql, abin_i_neq, abin_i_lss, abin_i_leq, abin_i_gtr, abin_i_geq, abin_s_eql, abin_s_neq, bnd_some, bnd_none, branch_bool, gwant_bool, gwant_nothing, aguard_some, wantE_some, pickV_bool, nilck_ptr, nilck_elem, aoff_ptr, aoff_elem, aun_not, aun_neg, lenStr_str, lenSl_nils, lenSl_sl, lenSl_osl, aextract_tup, ld1uelem, idxStr_str, amin2uint, amax2uint, rangeStr_str, sliceStr_from, sliceStr_to, List.getElem?_cons_zero, List.getElem?_cons_succ, Option.map_some, Option.bind_some, Int.toNat_natCast, Int.toNat_zero, Int.le_refl, Bool.not_true, Bool.not_false, Bool.not_not, Bool.false_eq_true, if_true, if_false, decide_eq_true_eq, beq_self_eq_true, bool_ft, bool_tf, decide_true, decide_false, reduceCtorEq, cmpNil, cmpRes, boxCells, AV.known, AV.cells, Nat.zero_add, and_self, and_true, true_and, ite_self, forall_const, not_true_eq_false, not_false_eq_true, List.length_map]
    exact c_All_loop ws hsm hl h ws 0 [] H.next _ rfl (allGo_nil ws) (Nat.le_refl _) (by simp) ((Ext.refl H).add _) hset
end Go.Va

/-
  For contracts: going through a map, in whatever order; lists that grow.
-/
set_option linter.unusedVariables false
set_option linter.unusedSimpArgs false
set_option maxRecDepth 100000
namespace Go.Va
section
variable {H H0 : AH} {i r c : Nat} {es : List AEnt} {seen : List Nat}
theorem nextMap_at (hi : H.get i = some (.mIter (some r) c seen c)) (hr : H.get r = some (.map es c)) (hb : ∀ e ∈ es, e.born < c) {K : AV → AH → Prop}
    (hend : (∀ e ∈ es, e.born ∈ seen) → K (.tup [.bool false]) H) (hgo : ∀ e ∈ es, e.born ∉ seen → K (.tup [.bool true, e.key, e.val]) (H.put i (.mIter (some r) c (seen ++ [e.born]) c))) : nextMap (.iter i) H K := by
  simp only [nextMap, hi, hr]
  refine ⟨?_, ?_⟩
  · cases es with
    | nil => simp
    | cons e es =>
      have : ¬ (e.born ≥ c) := by have := hb e (List.mem_cons_self ..); omega
      simp [this]
  · intro x hx
    simp only [mapLeft, List.mem_append] at hx
    have hall : ∀ l : List AEnt, (∀ e ∈ l, e.born < c) → (l.filter fun e => decide (e.born < c)) = l ∧ (l.filter fun e => decide (e.born ≥ c)) = [] := fun l hl =>
      ⟨List.filter_eq_self.2 fun e he => by simpa using hl e he, List.filter_eq_nil_iff.2 fun e he => by simpa using hl e he⟩
    have h1 := hall (es.filter fun e => !seen.contains e.born) fun e he => hb e ((List.mem_filter.1 he).1)
    rw [h1.1, h1.2] at hx
    rcases hx with hx | hx
    · split at hx
      · rename_i hemp
        simp at hx; subst hx
        refine hend fun e he => ?_
        have := List.isEmpty_iff.1 hemp
        have := List.filter_eq_nil_iff.1 this e he
        simpa using this
      · simp at hx
    · simp only [List.append_nil, List.mem_map, List.mem_filter] at hx
      obtain ⟨e, ⟨he, hn⟩, rfl⟩ := hx
      exact hgo e he (by simpa using hn)
theorem find_born : ∀ (es : List AEnt), (es.map (·.born)).Nodup → ∀ e ∈ es, es.find? (fun x => x.born == e.born) = some e
  | [], _, e, he => by simp at he
  | x :: es, hn, e, he => by
    simp only [List.map_cons, List.nodup_cons] at hn
    rcases List.mem_cons.1 he with rfl | he
    · simp
    · have hne : (x.born == e.born) = false := by
        simp only [beq_eq_false_iff_ne, ne_eq]
        intro h; exact hn.1 (h ▸ List.mem_map_of_mem (f := (·.born)) he)
      rw [List.find?_cons, hne]
      exact find_born es hn.2 e he
theorem entryOf_at (hn : (es.map (·.born)).Nodup) {e : AEnt} (he : e ∈ es) (hi : H.get i = some (.mIter (some r) c (seen ++ [e.born]) c)) (hr : H.get r = some (.map es c)) : entryOf (.iter i) H = some (.tup [e.key, e.val]) := by
  simp [entryOf, hi, hr, find_born es hn e he]
theorem unseen_lt {e : AEnt} (he : e ∈ es) (hs : e.born ∉ seen) : (es.filter fun x => !(seen ++ [e.born]).contains x.born).length < (es.filter fun x => !seen.contains x.born).length := by
  have : (es.filter fun x => !(seen ++ [e.born]).contains x.born) = (es.filter fun x => !seen.contains x.born).filter fun x => !(x.born == e.born) := by
    rw [List.filter_filter]
    congr 1; funext x
    rw [Bool.eq_iff_iff]; simp only [Bool.not_eq_true', Bool.and_eq_true, List.contains_eq_mem, decide_eq_false_iff_not, List.mem_append, List.mem_singleton, not_or, beq_eq_false_iff_ne]
    exact and_comm
  rw [this]
  have hm : e ∈ es.filter fun x => !seen.contains x.born := List.mem_filter.2 ⟨he, by simpa using hs⟩
  exact List.length_filter_lt_length_iff_exists.2 ⟨e, hm, by simp⟩
/-- A loop over a map: each entry is looked at (G: it is as it should be), in some order. -/
theorem mapLoop {b : (List AV → AH → Prop) → List AV → AH → Prop} {st : List AV} (G : AEnt → Prop)
    (body : ∀ (seen : List Nat) (H : AH) (Y : List AV → AH → Prop), i < H.next → r < H.next → Ext H0 H → H.get i = some (.mIter (some r) c seen c) → H.get r = some (.map es c) → (∀ e ∈ es, e.born ∈ seen → G e) →
      (∀ e ∈ es, e.born ∉ seen → ∀ H', H.next ≤ H'.next → Ext H0 H' → H'.get i = some (.mIter (some r) c (seen ++ [e.born]) c) → H'.get r = some (.map es c) → G e → Y st H') → b Y st H) (hn : (es.map (·.born)).Nodup) :
    ∀ (n : Nat) (seen : List Nat) (H : AH), (es.filter fun x => !seen.contains x.born).length = n → i < H.next → r < H.next → Ext H0 H → H.get i = some (.mIter (some r) c seen c) → H.get r = some (.map es c) → (∀ e ∈ es, e.born ∈ seen → G e) → LoopP b st H := by
  intro n
  induction n using Nat.strongRecOn with
  | ind n ih =>
    intro seen H hc hin hrn hx hi hr hg
    refine LoopP.intro (fun s' H' => s' = st ∧ ∃ seen', (es.filter fun x => !seen'.contains x.born).length < n ∧ H.next ≤ H'.next ∧ Ext H0 H' ∧ H'.get i = some (.mIter (some r) c seen' c) ∧ H'.get r = some (.map es c) ∧ ∀ e ∈ es, e.born ∈ seen' → G e) ?_ ?_
    · rintro s' H' ⟨rfl, seen', h1, hn', h2, h3, h4, h5⟩
      exact ih _ h1 seen' H' rfl (Nat.lt_of_lt_of_le hin hn') (Nat.lt_of_lt_of_le hrn hn') h2 h3 h4 h5
    · refine body seen H _ hin hrn hx hi hr hg fun e he hs H' hnn hx' hi' hr' hge => ⟨rfl, seen ++ [e.born], ?_, hnn, hx', hi', hr', ?_⟩
      · rw [← hc]; exact unseen_lt he hs
      · intro e' he' hm
        rcases List.mem_append.1 hm with hm | hm
        · exact hg e' he' hm
        · simp only [List.mem_singleton] at hm
          -- births are their own
          have h1 := find_born es hn e he
          have h2 := find_born es hn e' he'
          rw [hm, h1] at h2; cases h2; exact hge
end

-- ---------------------------------------------------------------- lists that grow
/-- a slice that its maker appends to -/
def IsGrow {α : Type} (sz : Nat) (enc : α → AV) (H0 : AH) (v : AV) (l : List α) (H : AH) : Prop := (v = .nils ∧ l = []) ∨ ∃ c t, v = .sl (.tail c) sz (l.map enc) ∧ H.tok c = some t ∧ H0.next ≤ c ∧ c < H.next
theorem IsGrow.isSl {α : Type} {sz : Nat} {enc : α → AV} {H0 H : AH} {v : AV} {l : List α} (h : IsGrow sz enc H0 v l H) : IsSl sz enc v l := by
  rcases h with h | ⟨c, t, h, _⟩
  · exact .inl h
  · exact .inr ⟨_, h⟩
theorem Ext.newtok {H H' : AH} (h : Ext H H') (l : Nat) : Ext H (H'.newtok l) :=
  ⟨Nat.le_succ_of_le h.next, h.get, fun c hc => by
    simp only [AH.newtok]; have := h.next; rw [if_neg (by omega)]; exact h.tok c hc⟩
theorem Ext.retok {H H' : AH} (h : Ext H H') {c : Nat} (hc : H.next ≤ c) (l : Nat) : Ext H (H'.retok c l) :=
  ⟨Nat.le_succ_of_le h.next, h.get, fun c' hc' => by
    simp only [AH.retok]; have := h.next; rw [if_neg (by omega), if_neg (by omega)]; exact h.tok c' hc'⟩
theorem appK_pure {sz by_ : Nat} {s x : AV} {H : AH} {K : AV → AH → Prop} {r : AV} {H' : AH} (h : appd sz by_ s x H = some (r, H')) (k : K r H') : appK sz by_ s x H K := by
  refine .inl ?_
  rw [h]; exact k
theorem IsGrow.mono {α : Type} {sz : Nat} {enc : α → AV} {H0 H H' : AH} {v : AV} {l : List α} (h : IsGrow sz enc H0 v l H) (hn : H.next ≤ H'.next) (ht : ∀ c, c < H.next → H'.tok c = H.tok c) : IsGrow sz enc H0 v l H' := by
  rcases h with h | ⟨c, t, h1, h2, h3, h4⟩
  · exact .inl h
  · exact .inr ⟨c, t, h1, by rw [ht c h4]; exact h2, h3, Nat.lt_of_lt_of_le h4 hn⟩
theorem IsGrow.appG {α : Type} {sz by_ : Nat} {enc : α → AV} {H0 H : AH} {v : AV} {l xs : List α} {vx : AV} (hg : IsGrow sz enc H0 v l H) (hx : H0.next ≤ H.next) (hxs : IsSl sz enc vx xs) (hb : (2 * (l.length + xs.length) + 1024) * by_ ≤ 281474976710656) (hb2 : l.length + xs.length ≤ 9223372036854775807)
    (hone : (flat (xs.map enc)).all AV.one = true) {K : AV → AH → Prop} (k : ∀ v' H', IsGrow sz enc H0 v' (l ++ xs) H' → H'.get = H.get → H.next ≤ H'.next → (∀ c, c < H0.next → H'.tok c = H.tok c) → K v' H') : appK sz by_ v vx H K := by
  have hsrc : asrc sz vx = some (xs.map enc) := by
    rcases hxs with ⟨rfl, rfl⟩ | ⟨g, rfl⟩
    · rfl
    · simp [asrc]
  rcases hg with ⟨rfl, rfl⟩ | ⟨c, t, rfl, ht, hc, hc2⟩
  · by_cases he : xs = []
    · subst he
      refine appK_pure (r := .nils) (H' := H) (by simp [appd, hsrc]) (k _ _ (.inl ⟨rfl, rfl⟩) rfl (Nat.le_refl _) fun _ _ => rfl)
    · have he' : xs.map enc ≠ [] := by simpa using he
      refine appK_pure (r := .sl (.tail H.next) sz (xs.map enc)) (H' := H.newtok 0) ?_ (k _ _ (.inr ⟨H.next, 0, by simp, by simp [AH.newtok], hx, by simp [AH.newtok]⟩) rfl (by simp [AH.newtok]) fun c hc => ?_)
      · simp only [appd, hsrc, he', if_false, List.length_map]
        simp only [List.length_nil, Nat.zero_add] at hb hb2
        rw [if_pos ⟨hb, hb2⟩]
      · simp only [AH.newtok]; rw [if_neg (by omega)]
  · refine appK_pure (r := .sl (.tail H.next) sz (l.map enc ++ xs.map enc)) (H' := H.retok c t) ?_ (k _ _ (.inr ⟨H.next, t, by simp, by simp [AH.retok], hx, by simp [AH.retok]⟩) rfl (by simp [AH.retok]) fun c' hc' => ?_)
    · simp only [appd, hsrc, ht, List.length_map]
      rw [if_pos ⟨trivial, hb, hb2, hone⟩]
    · simp only [AH.retok]; rw [if_neg (by omega), if_neg (by omega)]
theorem IsGrow.app {α : Type} {sz by_ : Nat} {enc : α → AV} {H0 H : AH} {v : AV} {l xs : List α} {vx : AV} (hg : IsGrow sz enc H0 v l H) (hx : Ext H0 H) (hxs : IsSl sz enc vx xs) (hb : (2 * (l.length + xs.length) + 1024) * by_ ≤ 281474976710656) (hb2 : l.length + xs.length ≤ 9223372036854775807)
    (hone : (flat (xs.map enc)).all AV.one = true) {K : AV → AH → Prop} (k : ∀ v' H', IsGrow sz enc H0 v' (l ++ xs) H' → Ext H0 H' → H'.get = H.get → H.next ≤ H'.next → K v' H') : appK sz by_ v vx H K :=
  hg.appG hx.next hxs hb hb2 hone fun v' H' h1 h2 h3 h4 => k v' H' h1 ⟨Nat.le_trans hx.next h3, fun o ho => by rw [h2]; exact hx.get o ho, fun c hc => (h4 c hc).trans (hx.tok c hc)⟩ h2 h3
theorem flat_one {α : Type} {enc : α → AV} {xs : List α} (h : ∀ x ∈ xs, (enc x).cells.all AV.one = true) : (flat (xs.map enc)).all AV.one = true := by
  simp only [flat, List.all_eq_true, List.mem_flatMap, List.mem_map] at *
  rintro a ⟨e, ⟨x, hx, rfl⟩, ha⟩
  exact h x hx a ha
theorem buildSl_one (sz : Nat) (x : AV) (hk : x.known = true) (hl : x.cells.length = sz) : buildSl sz 1 [(0, x)] = some (.sl .full sz [x]) := by
  simp [buildSl, litOk, hk, hl]
end Go.Va

/-
  Contracts: may a message be?
-/
set_option linter.unusedVariables false
set_option linter.unusedSimpArgs false
set_option maxRecDepth 100000
namespace Go.Va
/-- the entries of a map, in whatever order they came -/
structure MapIs (es : List AEnt) (c : Nat) (L : List (AV × AV)) : Prop where
  sub : ∀ e ∈ es, (e.key, e.val) ∈ L
  sup : ∀ p ∈ L, ∃ e ∈ es, (e.key, e.val) = p
  born : ∀ e ∈ es, e.born < c
  nodup : (es.map (·.born)).Nodup
theorem c_message_texts (o : Nat) {H : AH} {K : AV → AH → Prop} (h : ∀ es, MapIs es 3 [(.int .i32 70, .ptr o 1), (.int .i32 69, .ptr o 2), (.int .i32 84, .ptr o 3)] → K (.map H.next) (H.add (.map es 3))) : r_message_texts [.ptr o 0] H K := by
  simp only [r_message_texts, abin_i_add, abin_i_sub, abin_i_mul, abin_i_eql, abin_i_neq, abin_i_lss, abin_i_leq, abin_i_gtr, abin_i_geq, abin_s_eql, abin_s_neq, bnd_some, bnd_none, branch_bool, gwant_bool, gwant_nothing, aguard_some, wantE_some, pickV_bool, nilck_ptr, nilck_elem, aoff_ptr, aoff_elem, aun_not, aun_neg, lenStr_str, lenSl_nils, lenSl_sl, lenSl_osl, aextract_tup, ld1uelem, idxStr_str, amin2uint, amax2uint, rangeStr_str, sliceStr_from, sliceStr_to, List.getElem?_cons_zero, List.getElem?_cons_succ, Option.map_some, Option.bind_some, Int.toNat_natCast, Int.toNat_zero, Int.le_refl, Bool.not_true, Bool.not_false, Bool.not_not, Bool.false_eq_true, if_true, if_false, decide_eq_true_eq, beq_self_eq_true, bool_ft, bool_tf, decide_true, decide_false, reduceCtorEq, cmpNil, cmpRes, boxCells, AV.known, AV.cells, Nat.zero_add, and_self, and_true, true_and, ite_self, forall_const, not_true_eq_false, not_false_eq_true, mput, get_add_self, add_put, afind, keyIs, keySame, same1, List.nil_append, List.cons_append, Int.reduceBEq]
  refine ⟨⟨h _ ?_, h _ ?_⟩, ⟨h _ ?_, h _ ?_⟩, h _ ?_, h _ ?_⟩
  all_goals exact ⟨by simp, by simp, by simp, by simp⟩
set_option maxHeartbeats 1000000 in
theorem c_message_numbers (o : Nat) {H : AH} {K : AV → AH → Prop} (h : ∀ es, MapIs es 4 [(.int .i32 78, .ptr o 4), (.int .i32 83, .ptr o 5), (.int .i32 85, .ptr o 6), (.int .i32 80, .ptr o 7)] → K (.map H.next) (H.add (.map es 4))) : r_message_numbers [.ptr o 0] H K := by
  simp only [r_message_numbers, abin_i_add, abin_i_sub, abin_i_mul, abin_i_eql, abin_i_neq, abin_i_lss, abin_i_leq, abin_i_gtr, abin_i_geq, abin_s_eql, abin_s_neq, bnd_some, bnd_none, branch_bool, gwant_bool, gwant_nothing, aguard_some, wantE_some, pickV_bool, nilck_ptr, nilck_elem, aoff_ptr, aoff_elem, aun_not, aun_neg, lenStr_str, lenSl_nils, lenSl_sl, lenSl_osl, aextract_tup, ld1uelem, idxStr_str, amin2uint, amax2uint, rangeStr_str, sliceStr_from, sliceStr_to, List.getElem?_cons_zero, List.getElem?_cons_succ, Option.map_some, Option.bind_some, Int.toNat_natCast, Int.toNat_zero, Int.le_refl, Bool.not_true, Bool.not_false, Bool.not_not, Bool.false_eq_true, if_true, if_false, decide_eq_true_eq, beq_self_eq_true, bool_ft, bool_tf, decide_true, decide_false, reduceCtorEq, cmpNil, cmpRes, boxCells, AV.known, AV.cells, Nat.zero_add, and_self, and_true, true_and, ite_self, forall_const, not_true_eq_false, not_false_eq_true, mput, get_add_self, add_put, afind, keyIs, keySame, same1, List.nil_append, List.cons_append, Int.reduceBEq]
  refine ⟨⟨⟨h _ ?_, h _ ?_⟩, ⟨h _ ?_, h _ ?_⟩, h _ ?_, h _ ?_⟩, ⟨⟨h _ ?_, h _ ?_⟩, ⟨h _ ?_, h _ ?_⟩, h _ ?_, h _ ?_⟩, ⟨⟨h _ ?_, h _ ?_⟩, ⟨h _ ?_, h _ ?_⟩, h _ ?_, h _ ?_⟩, ⟨h _ ?_, h _ ?_⟩, ⟨h _ ?_, h _ ?_⟩, h _ ?_, h _ ?_⟩
  all_goals exact ⟨by simp, by simp, by simp, by simp⟩
theorem c_message_number (f : UInt8) (n : Int) {H : AH} {K : AV → AH → Prop} (h : K (.bool (numberOk f n)) H) : r_message_number [.int .i32 f.toNat, .int .i64 n] H K := by
  have e : ((f.toNat : Int) == 83) = decide (f = 83) := by
    rw [Bool.eq_iff_iff]; simp only [beq_iff_eq, decide_eq_true_eq]
    constructor
    · intro h; exact UInt8.toNat_inj.1 (show f.toNat = (83 : UInt8).toNat from by have : (83 : UInt8).toNat = 83 := rfl
                                                                                  omega)
    · rintro rfl; rfl
  unfold numberOk at h
  by_cases hf : f = 83
  · subst hf
    by_cases h1 : 1 ≤ n
    · have h1' : n ≥ 1 := h1
      simpa [r_message_number, h1, h1'] using h
    · have h1' : ¬ n ≥ 1 := h1
      simpa [r_message_number, h1, h1'] using h
  · by_cases h1 : 1 ≤ n
    · have h1' : n ≥ 1 := h1
      simpa [r_message_number, e, hf, h1, h1'] using h
    · have h1' : ¬ n ≥ 1 := h1
      simpa [r_message_number, e, hf, h1, h1'] using h

-- ---------------------------------------------------------------- items
section
variable {ct : Tab} {f : AV} {p : Item → Bool}
theorem c_IndexFunc_items {H0 : AH} {g : Grow} {l : List Item} (hp : ∀ i ∈ l, ∀ H K, (∀ H', Ext H H' → K (.bool (p i)) H') → acallv ct f [encItem i] H K) (hl : l.length ≤ 1000000000) {K : AV → AH → Prop}
    (h : ∀ H', Ext H0 H' → ∀ n : Int, (0 ≤ n ↔ l.any p = true) → K (.int .i64 n) H') :
    ∀ (r : List Item) (i : Nat) (H : AH), l.drop i = r → (r.any p = l.any p) → Ext H0 H →
    LoopP (r_slices_IndexFunc_api_Item_api_Item_p52 ct K) [.sl g 2 (l.map encItem), f, .int .i64 l.length, .int .i64 i] H
  | [], i, H, hr, ha, hx => by
    refine .fold ?_
    have hi : l.length ≤ i := by simpa using hr
    have hlt : ¬ ((i : Int) < (l.length : Int)) := by omega
    simp only [r_slices_IndexFunc_api_Item_api_Item_p52, abin_i_add, abin_i_sub, abin_i_mul, abin_i_eql, abin_i_neq, abin_i_lss, abin_i_leq, abin_i_gtr, abin_i_geq, abin_s_eql, abin_s_neq, bnd_some, bnd_none, branch_bool, gwant_bool, gwant_nothing, aguard_some, wantE_some, pickV_bool, nilck_ptr, nilck_elem, aoff_ptr, aoff_elem, aun_not, aun_neg, lenStr_str, lenSl_nils, lenSl_sl, lenSl_osl, aextract_tup, ld1uelem, idxStr_str, amin2uint, amax2uint, rangeStr_str, sliceStr_from, sliceStr_to, List.getElem?_cons_zero, List.getElem?_cons_succ, Option.map_some, Option.bind_some, Int.toNat_natCast, Int.toNat_zero, Int.le_refl, Bool.not_true, Bool.not_false, Bool.not_not, Bool.false_eq_true, if_true, if_false, decide_eq_true_eq, beq_self_eq_true, bool_ft, bool_tf, decide_true, decide_false, reduceCtorEq, cmpNil, cmpRes, boxCells, AV.known, AV.cells, Nat.zero_add, and_self, and_true, true_and, ite_self, forall_const, not_true_eq_false, not_false_eq_true, hlt]
    refine h H hx (-1) ?_
    rw [← ha]; simp
  | w :: r, i, H, hr, ha, hx => by
    refine .fold ?_
    have hw : l[i]? = some w := by
      have := congrArg (fun l => l[0]?) hr
      simpa using this
    have hlt : i < l.length := (List.getElem?_eq_some_iff.1 hw).1
    have hr' : l.drop (i + 1) = r := by rw [← List.drop_drop, hr]; rfl
    have h1 : ((i : Int) < (l.length : Int)) := by omega
    have h2 : (0 : Int) ≤ (i : Int) := by omega
    have hww : IntKind.i64.wrap ((i : Int) + 1) = ((i + 1 : Nat) : Int) := by rw [wrap_i64 (by omega) (by omega)]; omega
    have hgi : (l.map encItem)[i]? = some (encItem w) := by simp [hw]
    have hld : ldN 2 (.elem (encItem w).cells 0) H = some (encItem w) := by simp [ldN, encItem, AV.cells]
    have hk : (encItem w).known = true := rfl
    simp only [r_slices_IndexFunc_api_Item_api_Item_p52, abin_i_lss, bnd_some, branch_bool, decide_eq_true_eq, h1, if_true, idxA, h2, and_self, Int.toNat_natCast, hgi, Option.bind_some, hk, hld]
    refine hp w (List.mem_of_getElem? hw) H _ fun H1 hx1 => ?_
    simp only [abin_i_add, abin_i_sub, abin_i_mul, abin_i_eql, abin_i_neq, abin_i_lss, abin_i_leq, abin_i_gtr, abin_i_geq, abin_s_eql, abin_s_neq, bnd_some, bnd_none, branch_bool, gwant_bool, gwant_nothing, aguard_some, wantE_some, pickV_bool, nilck_ptr, nilck_elem, aoff_ptr, aoff_elem, aun_not, aun_neg, lenStr_str, lenSl_nils, lenSl_sl, lenSl_osl, aextract_tup, ld1uelem, idxStr_str, amin2uint, amax2uint, rangeStr_str, sliceStr_from, sliceStr_to, List.getElem?_cons_zero, List.getElem?_cons_succ, Option.map_some, Option.bind_some, Int.toNat_natCast, Int.toNat_zero, Int.le_refl, Bool.not_true, Bool.not_false, Bool.not_not, Bool.false_eq_true, if_true, if_false, decide_eq_true_eq, beq_self_eq_true, bool_ft, bool_tf, decide_true, decide_false, reduceCtorEq, cmpNil, cmpRes, boxCells, AV.known, AV.cells, Nat.zero_add, and_self, and_true, true_and, ite_self, forall_const, not_true_eq_false, not_false_eq_true, hww]
    cases hpw : p w with
    | true =>
      simp only [abin_i_add, abin_i_sub, abin_i_mul, abin_i_eql, abin_i_neq, abin_i_lss, abin_i_leq, abin_i_gtr, abin_i_geq, abin_s_eql, abin_s_neq, bnd_some, bnd_none, branch_bool, gwant_bool, gwant_nothing, aguard_some, wantE_some, pickV_bool, nilck_ptr, nilck_elem, aoff_ptr, aoff_elem, aun_not, aun_neg, lenStr_str, lenSl_nils, lenSl_sl, lenSl_osl, aextract_tup, ld1uelem, idxStr_str, amin2uint, amax2uint, rangeStr_str, sliceStr_from, sliceStr_to, List.getElem?_cons_zero, List.getElem?_cons_succ, Option.map_some, Option.bind_some, Int.toNat_natCast, Int.toNat_zero, Int.le_refl, Bool.not_true, Bool.not_false, Bool.not_not, Bool.false_eq_true, if_true, if_false, decide_eq_true_eq, beq_self_eq_true, bool_ft, bool_tf, decide_true, decide_false, reduceCtorEq, cmpNil, cmpRes, boxCells, AV.known, AV.cells, Nat.zero_add, and_self, and_true, true_and, ite_self, forall_const, not_true_eq_false, not_false_eq_true]
      refine h H1 (hx.trans hx1) i ?_
      rw [← ha]; simp [hpw]
    | false =>
      simp only [abin_i_add, abin_i_sub, abin_i_mul, abin_i_eql, abin_i_neq, abin_i_lss, abin_i_leq, abin_i_gtr, abin_i_geq, abin_s_eql, abin_s_neq, bnd_some, bnd_none, branch_bool, gwant_bool, gwant_nothing, aguard_some, wantE_some, pickV_bool, nilck_ptr, nilck_elem, aoff_ptr, aoff_elem, aun_not, aun_neg, lenStr_str, lenSl_nils, lenSl_sl, lenSl_osl, aextract_tup, ld1uelem, idxStr_str, amin2uint, amax2uint, rangeStr_str, sliceStr_from, sliceStr_to, List.getElem?_cons_zero, List.getElem?_cons_succ, Option.map_some, Option.bind_some, Int.toNat_natCast, Int.toNat_zero, Int.le_refl, Bool.not_true, Bool.not_false, Bool.not_not, Bool.false_eq_true, if_true, if_false, decide_eq_true_eq, beq_self_eq_true, bool_ft, bool_tf, decide_true, decide_false, reduceCtorEq, cmpNil, cmpRes, boxCells, AV.known, AV.cells, Nat.zero_add, and_self, and_true, true_and, ite_self, forall_const, not_true_eq_false, not_false_eq_true]
      exact c_IndexFunc_items hp hl h r (i + 1) H1 hr' (by rw [← ha]; simp [hpw]) (hx.trans hx1)
theorem c_ContainsFunc_items {l : List Item} {v : AV} (hv : IsItems v l) (hp : ∀ i ∈ l, ∀ H K, (∀ H', Ext H H' → K (.bool (p i)) H') → acallv ct f [encItem i] H K) (hl : l.length ≤ 1000000000) {H : AH} {K : AV → AH → Prop}
    (h : ∀ H', Ext H H' → K (.bool (l.any p)) H') : r_slices_ContainsFunc_api_Item_api_Item ct [v, f] H K := by
  rcases hv with ⟨rfl, rfl⟩ | ⟨g, rfl⟩
  · simp only [r_slices_ContainsFunc_api_Item_api_Item, r_slices_IndexFunc_api_Item_api_Item, abin_i_add, abin_i_sub, abin_i_mul, abin_i_eql, abin_i_neq, abin_i_lss, abin_i_leq, abin_i_gtr, abin_i_geq, abin_s_eql, abin_s_neq, bnd_some, bnd_none, branch_bool, gwant_bool, gwant_nothing, aguard_some, wantE_some, pickV_bool, nilck_ptr, nilck_elem, aoff_ptr, aoff_elem, aun_not, aun_neg, lenStr_str, lenSl_nils, lenSl_sl, lenSl_osl, aextract_tup, ld1uelem, idxStr_str, amin2uint, amax2uint, rangeStr_str, sliceStr_from, sliceStr_to, List.getElem?_cons_zero, List.getElem?_cons_succ, Option.map_some, Option.bind_some, Int.toNat_natCast, Int.toNat_zero, Int.le_refl, Bool.not_true, Bool.not_false, Bool.not_not, Bool.false_eq_true, if_true, if_false, decide_eq_true_eq, beq_self_eq_true, bool_ft, bool_tf, decide_true, decide_false, reduceCtorEq, cmpNil, cmpRes, boxCells, AV.known, AV.cells, Nat.zero_add, and_self, and_true, true_and, ite_self, forall_const, not_true_eq_false, not_false_eq_true]
    refine .fold ?_
    have := h H (Ext.refl H)
    simpa [r_slices_IndexFunc_api_Item_api_Item_p52] using this
  · simp only [r_slices_ContainsFunc_api_Item_api_Item, r_slices_IndexFunc_api_Item_api_Item, abin_i_add, abin_i_sub, abin_i_mul, abin_i_eql, abin_i_neq, abin_i_lss, abin_i_leq, abin_i_gtr, abin_i_geq, abin_s_eql, abin_s_neq, bnd_some, bnd_none, branch_bool, gwant_bool, gwant_nothing, aguard_some, wantE_some, pickV_bool, nilck_ptr, nilck_elem, aoff_ptr, aoff_elem, aun_not, aun_neg, lenStr_str, lenSl_nils, lenSl_sl, lenSl_osl, aextract_tup, ld1uelem, idxStr_str, amin2uint, amax2uint, rangeStr_str, sliceStr_from, sliceStr_to, List.getElem?_cons_zero, List.getElem?_cons_succ, Option.map_some, Option.bind_some, Int.toNat_natCast, Int.toNat_zero, Int.le_refl, Bool.not_true, Bool.not_false, Bool.not_not, Bool.false_eq_true, if_true, if_false, decide_eq_true_eq, beq_self_eq_true, bool_ft, bool_tf, decide_true, decide_false, reduceCtorEq, cmpNil, cmpRes, boxCells, AV.known, AV.cells, Nat.zero_add, and_self, and_true, true_and, ite_self, forall_const, not_true_eq_false, not_false_eq_true, List.length_map]
    refine c_IndexFunc_items hp hl (fun H' hx n hn => ?_) l 0 H rfl rfl (Ext.refl H)
    have e : decide (n ≥ 0) = l.any p := by
      rw [Bool.eq_iff_iff, ← hn]; simp
    simp only [abin_i_add, abin_i_sub, abin_i_mul, abin_i_eql, abin_i_neq, abin_i_lss, abin_i_leq, abin_i_gtr, abin_i_geq, abin_s_eql, abin_s_neq, bnd_some, bnd_none, branch_bool, gwant_bool, gwant_nothing, aguard_some, wantE_some, pickV_bool, nilck_ptr, nilck_elem, aoff_ptr, aoff_elem, aun_not, aun_neg, lenStr_str, lenSl_nils, lenSl_sl, lenSl_osl, aextract_tup, ld1uelem, idxStr_str, amin2uint, amax2uint, rangeStr_str, sliceStr_from, sliceStr_to, List.getElem?_cons_zero, List.getElem?_cons_succ, Option.map_some, Option.bind_some, Int.toNat_natCast, Int.toNat_zero, Int.le_refl, Bool.not_true, Bool.not_false, Bool.not_not, Bool.false_eq_true, if_true, if_false, decide_eq_true_eq, beq_self_eq_true, bool_ft, bool_tf, decide_true, decide_false, reduceCtorEq, cmpNil, cmpRes, boxCells, AV.known, AV.cells, Nat.zero_add, and_self, and_true, true_and, ite_self, forall_const, not_true_eq_false, not_false_eq_true, e]
    exact h H' hx
end
theorem c_list_1 (i : Item) (hi : ItemSmall i) {H : AH} {K : AV → AH → Prop} (h : ∀ H', Ext H H' → K (.bool !(i.a == 0 && i.b == 0)) H') : r_message_list_1 [encItem i] H K := by
  simp only [r_message_list_1, encItem, abin_i_add, abin_i_sub, abin_i_mul, abin_i_eql, abin_i_neq, abin_i_lss, abin_i_leq, abin_i_gtr, abin_i_geq, abin_s_eql, abin_s_neq, bnd_some, bnd_none, branch_bool, gwant_bool, gwant_nothing, aguard_some, wantE_some, pickV_bool, nilck_ptr, nilck_elem, aoff_ptr, aoff_elem, aun_not, aun_neg, lenStr_str, lenSl_nils, lenSl_sl, lenSl_osl, aextract_tup, ld1uelem, idxStr_str, amin2uint, amax2uint, rangeStr_str, sliceStr_from, sliceStr_to, List.getElem?_cons_zero, List.getElem?_cons_succ, Option.map_some, Option.bind_some, Int.toNat_natCast, Int.toNat_zero, Int.le_refl, Bool.not_true, Bool.not_false, Bool.not_not, Bool.false_eq_true, if_true, if_false, decide_eq_true_eq, beq_self_eq_true, bool_ft, bool_tf, decide_true, decide_false, reduceCtorEq, cmpNil, cmpRes, boxCells, AV.known, AV.cells, Nat.zero_add, and_self, and_true, true_and, ite_self, forall_const, not_true_eq_false, not_false_eq_true, ld1uptr (get_add_self _ _), cplx_zero i.a i.b hi.1 hi.2.1]
  exact h _ ((Ext.refl H).add _)
theorem c_list_2 (i : Item) (hi : ItemSmall i) {H : AH} {K : AV → AH → Prop} (h : ∀ H', Ext H H' → K (.bool !(needOk i.a i.b)) H') : r_message_list_2 [encItem i] H K := by
  simp only [r_message_list_2, encItem, abin_i_add, abin_i_sub, abin_i_mul, abin_i_eql, abin_i_neq, abin_i_lss, abin_i_leq, abin_i_gtr, abin_i_geq, abin_s_eql, abin_s_neq, bnd_some, bnd_none, branch_bool, gwant_bool, gwant_nothing, aguard_some, wantE_some, pickV_bool, nilck_ptr, nilck_elem, aoff_ptr, aoff_elem, aun_not, aun_neg, lenStr_str, lenSl_nils, lenSl_sl, lenSl_osl, aextract_tup, ld1uelem, idxStr_str, amin2uint, amax2uint, rangeStr_str, sliceStr_from, sliceStr_to, List.getElem?_cons_zero, List.getElem?_cons_succ, Option.map_some, Option.bind_some, Int.toNat_natCast, Int.toNat_zero, Int.le_refl, Bool.not_true, Bool.not_false, Bool.not_not, Bool.false_eq_true, if_true, if_false, decide_eq_true_eq, beq_self_eq_true, bool_ft, bool_tf, decide_true, decide_false, reduceCtorEq, cmpNil, cmpRes, boxCells, AV.known, AV.cells, Nat.zero_add, and_self, and_true, true_and, ite_self, forall_const, not_true_eq_false, not_false_eq_true, ld1uptr (get_add_self _ _)]
  refine c_need_Right i.a i.b hi.1 hi.2.1 ?_
  simp only [abin_i_add, abin_i_sub, abin_i_mul, abin_i_eql, abin_i_neq, abin_i_lss, abin_i_leq, abin_i_gtr, abin_i_geq, abin_s_eql, abin_s_neq, bnd_some, bnd_none, branch_bool, gwant_bool, gwant_nothing, aguard_some, wantE_some, pickV_bool, nilck_ptr, nilck_elem, aoff_ptr, aoff_elem, aun_not, aun_neg, lenStr_str, lenSl_nils, lenSl_sl, lenSl_osl, aextract_tup, ld1uelem, idxStr_str, amin2uint, amax2uint, rangeStr_str, sliceStr_from, sliceStr_to, List.getElem?_cons_zero, List.getElem?_cons_succ, Option.map_some, Option.bind_some, Int.toNat_natCast, Int.toNat_zero, Int.le_refl, Bool.not_true, Bool.not_false, Bool.not_not, Bool.false_eq_true, if_true, if_false, decide_eq_true_eq, beq_self_eq_true, bool_ft, bool_tf, decide_true, decide_false, reduceCtorEq, cmpNil, cmpRes, boxCells, AV.known, AV.cells, Nat.zero_add, and_self, and_true, true_and, ite_self, forall_const, not_true_eq_false, not_false_eq_true]
  exact h _ ((Ext.refl H).add _)
theorem c_list_loop (kind : Int) (l : List Item) (hs : ItemsSmall l) {g : Grow} {v0 : AV} {H0 : AH} {K : AV → AH → Prop} 
    (h : ∀ (v : AV) H', Ext H0 H' → IsSl 1 .str v (l.map (·.t)) → (LoopP (r_message_list_p116 K) [.int .i64 kind, v0, v, .sl g 2 (l.map encItem), .int .i64 l.length, .int .i64 l.length] H')) :
    ∀ (r : List Item) (i : Nat) (v : AV) (H : AH), l.drop i = r → IsGrow 1 .str H0 v ((l.take i).map (·.t)) H → Ext H0 H → i ≤ l.length →
    LoopP (r_message_list_p116 K) [.int .i64 kind, v0, v, .sl g 2 (l.map encItem), .int .i64 l.length, .int .i64 i] H
  | [], i, v, H, hr, hg, hx, hil => by
    have hi : l.length ≤ i := by simpa using hr
    have : i = l.length := by omega
    subst this
    rw [List.take_of_length_le (Nat.le_refl _)] at hg
    exact h v H hx hg.isSl
  | w :: r, i, v, H, hr, hg, hx, hil => by
    refine .fold ?_
    have hw : l[i]? = some w := by
      have := congrArg (fun l => l[0]?) hr
      simpa using this
    have hlt : i < l.length := (List.getElem?_eq_some_iff.1 hw).1
    have hr' : l.drop (i + 1) = r := by rw [← List.drop_drop, hr]; rfl
    have h1 : ((i : Int) < (l.length : Int)) := by omega
    have h2 : (0 : Int) ≤ (i : Int) := by omega
    have hll := hs.1
    have hww : IntKind.i64.wrap ((i : Int) + 1) = ((i + 1 : Nat) : Int) := by rw [wrap_i64 (by omega) (by omega)]; omega
    have hgi : (l.map encItem)[i]? = some (encItem w) := by simp [hw]
    have hld : ldN 2 (.elem (encItem w).cells 0) H = some (encItem w) := by simp [ldN, encItem, AV.cells]
    have hk : (encItem w).known = true := rfl
    have hst : ast 2 (.ptr H.next 0) (encItem w) (H.add (.cells [.str [], .cplx .f64 0 0])) = some (H.add (.cells (encItem w).cells)) := by
      have := ast_all (cs := (encItem w).cells) (get_add_self H (.cells [.str [], .cplx .f64 0 0])) rfl rfl
      rw [add_put] at this; exact this
    have hc0 : (encItem w).cells[0]? = some (.str w.t) := rfl
    have ht : (l.take (i + 1)).map (·.t) = (l.take i).map (·.t) ++ [w.t] := by
      rw [List.take_succ_eq_append_getElem hlt, List.map_append]; congr 2; simp [(List.getElem?_eq_some_iff.1 hw).2]
    simp only [r_message_list_p116, abin_i_lss, bnd_some, branch_bool, decide_eq_true_eq, h1, if_true, idxA, h2, and_self, Int.toNat_natCast, hgi, Option.bind_some, hk, hld, hst, aoff_ptr, Nat.add_zero, ld1uptr (get_add_self _ _), hc0, buildSl_one 1 (.str w.t) rfl rfl]
    have hgrow : IsGrow 1 AV.str H0 v ((l.take i).map (·.t)) (H.add (.cells (encItem w).cells)) := hg.mono (by simp) (fun _ _ => rfl)
    refine hgrow.app (xs := [w.t]) (hx.add _) (.inr ⟨_, rfl⟩) (by simp; omega) (by simp; omega) rfl fun v' H' hg' hx' _ _ => ?_
    simp only [bnd_some, abin_i_add, hww]
    exact c_list_loop kind l hs h r (i + 1) v' H' hr' (by rw [ht]; exact hg') hx' (by omega)
theorem names_small {l : List Item} (hs : ItemsSmall l) : ∀ w ∈ l.map (·.t), w.length ≤ 1000000000 := by
  intro w hw
  obtain ⟨i, hi, rfl⟩ := List.mem_map.1 hw
  exact (hs.2 i hi).2.2
theorem any_not {α : Type} (p : α → Bool) (l : List α) : (l.any fun x => !p x) = !(l.all p) := by
  induction l with
  | nil => rfl
  | cons a l ih => simp [List.any_cons, List.all_cons, ih]
theorem c_message_list (kind : Int) (l : List Item) (hs : ItemsSmall l) {v : AV} (hv : IsItems v l) {H : AH} {K : AV → AH → Prop} (h : ∀ H', Ext H H' → K (.bool (listOk kind l)) H') : r_message_list [.int .i64 kind, v] H K := by
  have hll := hs.1
  -- behind the loop
  have fin : ∀ (v8 vn : AV) H', Ext H H' → IsSl 1 .str vn (l.map (·.t)) → LoopP (r_message_list_p116 K) [.int .i64 kind, v, vn, v8, .int .i64 l.length, .int .i64 l.length] H' := by
    intro v8 vn H' hx hvn
    refine .fold ?_
    have hlt : ¬ ((l.length : Int) < (l.length : Int)) := by omega
    have hlen : lenSl v = some (.int .i64 l.length) := by
      rcases hv with ⟨rfl, rfl⟩ | ⟨g, rfl⟩ <;> simp
    simp only [r_message_list_p116, abin_i_add, abin_i_sub, abin_i_mul, abin_i_eql, abin_i_neq, abin_i_lss, abin_i_leq, abin_i_gtr, abin_i_geq, abin_s_eql, abin_s_neq, bnd_some, bnd_none, branch_bool, gwant_bool, gwant_nothing, aguard_some, wantE_some, pickV_bool, nilck_ptr, nilck_elem, aoff_ptr, aoff_elem, aun_not, aun_neg, lenStr_str, lenSl_nils, lenSl_sl, lenSl_osl, aextract_tup, ld1uelem, idxStr_str, amin2uint, amax2uint, rangeStr_str, sliceStr_from, sliceStr_to, List.getElem?_cons_zero, List.getElem?_cons_succ, Option.map_some, Option.bind_some, Int.toNat_natCast, Int.toNat_zero, Int.le_refl, Bool.not_true, Bool.not_false, Bool.not_not, Bool.false_eq_true, if_true, if_false, decide_eq_true_eq, beq_self_eq_true, bool_ft, bool_tf, decide_true, decide_false, reduceCtorEq, cmpNil, cmpRes, boxCells, AV.known, AV.cells, Nat.zero_add, and_self, and_true, true_and, ite_self, forall_const, not_true_eq_false, not_false_eq_true, hlt]
    refine c_name_All _ (names_small hs) (by simpa using hll) hvn fun H1 hx1 => ?_
    have hx1' := hx.trans hx1
    simp only [listOk] at h
    simp only [abin_i_add, abin_i_sub, abin_i_mul, abin_i_eql, abin_i_neq, abin_i_lss, abin_i_leq, abin_i_gtr, abin_i_geq, abin_s_eql, abin_s_neq, bnd_some, bnd_none, branch_bool, gwant_bool, gwant_nothing, aguard_some, wantE_some, pickV_bool, nilck_ptr, nilck_elem, aoff_ptr, aoff_elem, aun_not, aun_neg, lenStr_str, lenSl_nils, lenSl_sl, lenSl_osl, aextract_tup, ld1uelem, idxStr_str, amin2uint, amax2uint, rangeStr_str, sliceStr_from, sliceStr_to, List.getElem?_cons_zero, List.getElem?_cons_succ, Option.map_some, Option.bind_some, Int.toNat_natCast, Int.toNat_zero, Int.le_refl, Bool.not_true, Bool.not_false, Bool.not_not, Bool.false_eq_true, if_true, if_false, decide_eq_true_eq, beq_self_eq_true, bool_ft, bool_tf, decide_true, decide_false, reduceCtorEq, cmpNil, cmpRes, boxCells, AV.known, AV.cells, Nat.zero_add, and_self, and_true, true_and, ite_self, forall_const, not_true_eq_false, not_false_eq_true, hlen]
    cases ha : allNames (l.map (·.t)) with
    | false =>
      have := h H1 hx1'
      rw [ha] at this
      simpa using this
    | true =>
      simp only [ha, Bool.true_and] at h
      by_cases h4 : l.length ≤ 4
      · have e4 : decide ((l.length : Int) > 4) = false := by simp; omega
        simp only [h4, decide_true, Bool.true_and] at h
        simp only [abin_i_add, abin_i_sub, abin_i_mul, abin_i_eql, abin_i_neq, abin_i_lss, abin_i_leq, abin_i_gtr, abin_i_geq, abin_s_eql, abin_s_neq, bnd_some, bnd_none, branch_bool, gwant_bool, gwant_nothing, aguard_some, wantE_some, pickV_bool, nilck_ptr, nilck_elem, aoff_ptr, aoff_elem, aun_not, aun_neg, lenStr_str, lenSl_nils, lenSl_sl, lenSl_osl, aextract_tup, ld1uelem, idxStr_str, amin2uint, amax2uint, rangeStr_str, sliceStr_from, sliceStr_to, List.getElem?_cons_zero, List.getElem?_cons_succ, Option.map_some, Option.bind_some, Int.toNat_natCast, Int.toNat_zero, Int.le_refl, Bool.not_true, Bool.not_false, Bool.not_not, Bool.false_eq_true, if_true, if_false, decide_eq_true_eq, beq_self_eq_true, bool_ft, bool_tf, decide_true, decide_false, reduceCtorEq, cmpNil, cmpRes, boxCells, AV.known, AV.cells, Nat.zero_add, and_self, and_true, true_and, ite_self, forall_const, not_true_eq_false, not_false_eq_true, e4]
        by_cases h5 : kind = 5
        · subst h5
          simp only [abin_i_add, abin_i_sub, abin_i_mul, abin_i_eql, abin_i_neq, abin_i_lss, abin_i_leq, abin_i_gtr, abin_i_geq, abin_s_eql, abin_s_neq, bnd_some, bnd_none, branch_bool, gwant_bool, gwant_nothing, aguard_some, wantE_some, pickV_bool, nilck_ptr, nilck_elem, aoff_ptr, aoff_elem, aun_not, aun_neg, lenStr_str, lenSl_nils, lenSl_sl, lenSl_osl, aextract_tup, ld1uelem, idxStr_str, amin2uint, amax2uint, rangeStr_str, sliceStr_from, sliceStr_to, List.getElem?_cons_zero, List.getElem?_cons_succ, Option.map_some, Option.bind_some, Int.toNat_natCast, Int.toNat_zero, Int.le_refl, Bool.not_true, Bool.not_false, Bool.not_not, Bool.false_eq_true, if_true, if_false, decide_eq_true_eq, beq_self_eq_true, bool_ft, bool_tf, decide_true, decide_false, reduceCtorEq, cmpNil, cmpRes, boxCells, AV.known, AV.cells, Nat.zero_add, and_self, and_true, true_and, ite_self, forall_const, not_true_eq_false, not_false_eq_true]
          refine c_ContainsFunc_items (p := fun i => !(i.a == 0 && i.b == 0)) hv (fun i hi H K hk => ?_) hll fun H2 hx2 => ?_
          · simp only [acallv, tabL, List.nil_append, List.append_nil, Nat.reduceBEq, cond_true, cond_false, bnd_some]
            exact c_list_1 i (hs.2 i hi) hk
          · have := h H2 (hx1'.trans hx2)
            simp only [abin_i_add, abin_i_sub, abin_i_mul, abin_i_eql, abin_i_neq, abin_i_lss, abin_i_leq, abin_i_gtr, abin_i_geq, abin_s_eql, abin_s_neq, bnd_some, bnd_none, branch_bool, gwant_bool, gwant_nothing, aguard_some, wantE_some, pickV_bool, nilck_ptr, nilck_elem, aoff_ptr, aoff_elem, aun_not, aun_neg, lenStr_str, lenSl_nils, lenSl_sl, lenSl_osl, aextract_tup, ld1uelem, idxStr_str, amin2uint, amax2uint, rangeStr_str, sliceStr_from, sliceStr_to, List.getElem?_cons_zero, List.getElem?_cons_succ, Option.map_some, Option.bind_some, Int.toNat_natCast, Int.toNat_zero, Int.le_refl, Bool.not_true, Bool.not_false, Bool.not_not, Bool.false_eq_true, if_true, if_false, decide_eq_true_eq, beq_self_eq_true, bool_ft, bool_tf, decide_true, decide_false, reduceCtorEq, cmpNil, cmpRes, boxCells, AV.known, AV.cells, Nat.zero_add, and_self, and_true, true_and, ite_self, forall_const, not_true_eq_false, not_false_eq_true, any_not]
            simpa using this
        · have e5 : (kind == 5) = false := by simpa using h5
          simp only [h5, if_false] at h
          simp only [abin_i_add, abin_i_sub, abin_i_mul, abin_i_eql, abin_i_neq, abin_i_lss, abin_i_leq, abin_i_gtr, abin_i_geq, abin_s_eql, abin_s_neq, bnd_some, bnd_none, branch_bool, gwant_bool, gwant_nothing, aguard_some, wantE_some, pickV_bool, nilck_ptr, nilck_elem, aoff_ptr, aoff_elem, aun_not, aun_neg, lenStr_str, lenSl_nils, lenSl_sl, lenSl_osl, aextract_tup, ld1uelem, idxStr_str, amin2uint, amax2uint, rangeStr_str, sliceStr_from, sliceStr_to, List.getElem?_cons_zero, List.getElem?_cons_succ, Option.map_some, Option.bind_some, Int.toNat_natCast, Int.toNat_zero, Int.le_refl, Bool.not_true, Bool.not_false, Bool.not_not, Bool.false_eq_true, if_true, if_false, decide_eq_true_eq, beq_self_eq_true, bool_ft, bool_tf, decide_true, decide_false, reduceCtorEq, cmpNil, cmpRes, boxCells, AV.known, AV.cells, Nat.zero_add, and_self, and_true, true_and, ite_self, forall_const, not_true_eq_false, not_false_eq_true, e5]
          refine c_ContainsFunc_items (p := fun i => !(needOk i.a i.b)) hv (fun i hi H K hk => ?_) hll fun H2 hx2 => ?_
          · simp only [acallv, tabL, List.nil_append, List.append_nil, Nat.reduceBEq, cond_true, cond_false, bnd_some]
            exact c_list_2 i (hs.2 i hi) hk
          · have := h H2 (hx1'.trans hx2)
            simp only [abin_i_add, abin_i_sub, abin_i_mul, abin_i_eql, abin_i_neq, abin_i_lss, abin_i_leq, abin_i_gtr, abin_i_geq, abin_s_eql, abin_s_neq, bnd_some, bnd_none, branch_bool, gwant_bool, gwant_nothing, aguard_some, wantE_some, pickV_bool, nilck_ptr, nilck_elem, aoff_ptr, aoff_elem, aun_not, aun_neg, lenStr_str, lenSl_nils, lenSl_sl, lenSl_osl, aextract_tup, ld1uelem, idxStr_str, amin2uint, amax2uint, rangeStr_str, sliceStr_from, sliceStr_to, List.getElem?_cons_zero, List.getElem?_cons_succ, Option.map_some, Option.bind_some, Int.toNat_natCast, Int.toNat_zero, Int.le_refl, Bool.not_true, Bool.not_false, Bool.not_not, Bool.false_eq_true, if_true, if_false, decide_eq_true_eq, beq_self_eq_true, bool_ft, bool_tf, decide_true, decide_false, reduceCtorEq, cmpNil, cmpRes, boxCells, AV.known, AV.cells, Nat.zero_add, and_self, and_true, true_and, ite_self, forall_const, not_true_eq_false, not_false_eq_true, any_not]
            cases hn : l.all fun i => needOk i.a i.b with
            | false => rw [hn] at this; simpa using this
            | true =>
              rw [hn] at this
              simp only [Bool.true_and] at this
              simp only [abin_i_add, abin_i_sub, abin_i_mul, abin_i_eql, abin_i_neq, abin_i_lss, abin_i_leq, abin_i_gtr, abin_i_geq, abin_s_eql, abin_s_neq, bnd_some, bnd_none, branch_bool, gwant_bool, gwant_nothing, aguard_some, wantE_some, pickV_bool, nilck_ptr, nilck_elem, aoff_ptr, aoff_elem, aun_not, aun_neg, lenStr_str, lenSl_nils, lenSl_sl, lenSl_osl, aextract_tup, ld1uelem, idxStr_str, amin2uint, amax2uint, rangeStr_str, sliceStr_from, sliceStr_to, List.getElem?_cons_zero, List.getElem?_cons_succ, Option.map_some, Option.bind_some, Int.toNat_natCast, Int.toNat_zero, Int.le_refl, Bool.not_true, Bool.not_false, Bool.not_not, Bool.false_eq_true, if_true, if_false, decide_eq_true_eq, beq_self_eq_true, bool_ft, bool_tf, decide_true, decide_false, reduceCtorEq, cmpNil, cmpRes, boxCells, AV.known, AV.cells, Nat.zero_add, and_self, and_true, true_and, ite_self, forall_const, not_true_eq_false, not_false_eq_true, hlen]
              by_cases h1 : l.length = 1
              · have e1 : ((l.length : Int) == 1) = true := by simp; omega
                simp only [abin_i_add, abin_i_sub, abin_i_mul, abin_i_eql, abin_i_neq, abin_i_lss, abin_i_leq, abin_i_gtr, abin_i_geq, abin_s_eql, abin_s_neq, bnd_some, bnd_none, branch_bool, gwant_bool, gwant_nothing, aguard_some, wantE_some, pickV_bool, nilck_ptr, nilck_elem, aoff_ptr, aoff_elem, aun_not, aun_neg, lenStr_str, lenSl_nils, lenSl_sl, lenSl_osl, aextract_tup, ld1uelem, idxStr_str, amin2uint, amax2uint, rangeStr_str, sliceStr_from, sliceStr_to, List.getElem?_cons_zero, List.getElem?_cons_succ, Option.map_some, Option.bind_some, Int.toNat_natCast, Int.toNat_zero, Int.le_refl, Bool.not_true, Bool.not_false, Bool.not_not, Bool.false_eq_true, if_true, if_false, decide_eq_true_eq, beq_self_eq_true, bool_ft, bool_tf, decide_true, decide_false, reduceCtorEq, cmpNil, cmpRes, boxCells, AV.known, AV.cells, Nat.zero_add, and_self, and_true, true_and, ite_self, forall_const, not_true_eq_false, not_false_eq_true, e1]
                simpa [h1] using this
              · have e1 : ((l.length : Int) == 1) = false := by simp; omega
                simp only [abin_i_add, abin_i_sub, abin_i_mul, abin_i_eql, abin_i_neq, abin_i_lss, abin_i_leq, abin_i_gtr, abin_i_geq, abin_s_eql, abin_s_neq, bnd_some, bnd_none, branch_bool, gwant_bool, gwant_nothing, aguard_some, wantE_some, pickV_bool, nilck_ptr, nilck_elem, aoff_ptr, aoff_elem, aun_not, aun_neg, lenStr_str, lenSl_nils, lenSl_sl, lenSl_osl, aextract_tup, ld1uelem, idxStr_str, amin2uint, amax2uint, rangeStr_str, sliceStr_from, sliceStr_to, List.getElem?_cons_zero, List.getElem?_cons_succ, Option.map_some, Option.bind_some, Int.toNat_natCast, Int.toNat_zero, Int.le_refl, Bool.not_true, Bool.not_false, Bool.not_not, Bool.false_eq_true, if_true, if_false, decide_eq_true_eq, beq_self_eq_true, bool_ft, bool_tf, decide_true, decide_false, reduceCtorEq, cmpNil, cmpRes, boxCells, AV.known, AV.cells, Nat.zero_add, and_self, and_true, true_and, ite_self, forall_const, not_true_eq_false, not_false_eq_true, e1, hlen]
                by_cases hk1 : kind = 1
                · subst hk1
                  have e0 : decide ((l.length : Int) > 0) = decide (0 < l.length) := by rw [decide_eq_decide]; omega
                  simp only [abin_i_add, abin_i_sub, abin_i_mul, abin_i_eql, abin_i_neq, abin_i_lss, abin_i_leq, abin_i_gtr, abin_i_geq, abin_s_eql, abin_s_neq, bnd_some, bnd_none, branch_bool, gwant_bool, gwant_nothing, aguard_some, wantE_some, pickV_bool, nilck_ptr, nilck_elem, aoff_ptr, aoff_elem, aun_not, aun_neg, lenStr_str, lenSl_nils, lenSl_sl, lenSl_osl, aextract_tup, ld1uelem, idxStr_str, amin2uint, amax2uint, rangeStr_str, sliceStr_from, sliceStr_to, List.getElem?_cons_zero, List.getElem?_cons_succ, Option.map_some, Option.bind_some, Int.toNat_natCast, Int.toNat_zero, Int.le_refl, Bool.not_true, Bool.not_false, Bool.not_not, Bool.false_eq_true, if_true, if_false, decide_eq_true_eq, beq_self_eq_true, bool_ft, bool_tf, decide_true, decide_false, reduceCtorEq, cmpNil, cmpRes, boxCells, AV.known, AV.cells, Nat.zero_add, and_self, and_true, true_and, ite_self, forall_const, not_true_eq_false, not_false_eq_true, e0]
                  simpa [h1] using this
                · have ek : (kind == 1) = false := by simpa using hk1
                  simp only [abin_i_add, abin_i_sub, abin_i_mul, abin_i_eql, abin_i_neq, abin_i_lss, abin_i_leq, abin_i_gtr, abin_i_geq, abin_s_eql, abin_s_neq, bnd_some, bnd_none, branch_bool, gwant_bool, gwant_nothing, aguard_some, wantE_some, pickV_bool, nilck_ptr, nilck_elem, aoff_ptr, aoff_elem, aun_not, aun_neg, lenStr_str, lenSl_nils, lenSl_sl, lenSl_osl, aextract_tup, ld1uelem, idxStr_str, amin2uint, amax2uint, rangeStr_str, sliceStr_from, sliceStr_to, List.getElem?_cons_zero, List.getElem?_cons_succ, Option.map_some, Option.bind_some, Int.toNat_natCast, Int.toNat_zero, Int.le_refl, Bool.not_true, Bool.not_false, Bool.not_not, Bool.false_eq_true, if_true, if_false, decide_eq_true_eq, beq_self_eq_true, bool_ft, bool_tf, decide_true, decide_false, reduceCtorEq, cmpNil, cmpRes, boxCells, AV.known, AV.cells, Nat.zero_add, and_self, and_true, true_and, ite_self, forall_const, not_true_eq_false, not_false_eq_true, ek]
                  simpa [h1, hk1] using this
      · have e4 : decide ((l.length : Int) > 4) = true := by simp; omega
        have := h H1 hx1'
        simp only [h4, decide_false, Bool.false_and] at this
        simpa only [abin_i_add, abin_i_sub, abin_i_mul, abin_i_eql, abin_i_neq, abin_i_lss, abin_i_leq, abin_i_gtr, abin_i_geq, abin_s_eql, abin_s_neq, bnd_some, bnd_none, branch_bool, gwant_bool, gwant_nothing, aguard_some, wantE_some, pickV_bool, nilck_ptr, nilck_elem, aoff_ptr, aoff_elem, aun_not, aun_neg, lenStr_str, lenSl_nils, lenSl_sl, lenSl_osl, aextract_tup, ld1uelem, idxStr_str, amin2uint, amax2uint, rangeStr_str, sliceStr_from, sliceStr_to, List.getElem?_cons_zero, List.getElem?_cons_succ, Option.map_some, Option.bind_some, Int.toNat_natCast, Int.toNat_zero, Int.le_refl, Bool.not_true, Bool.not_false, Bool.not_not, Bool.false_eq_true, if_true, if_false, decide_eq_true_eq, beq_self_eq_true, bool_ft, bool_tf, decide_true, decide_false, reduceCtorEq, cmpNil, cmpRes, boxCells, AV.known, AV.cells, Nat.zero_add, and_self, and_true, true_and, ite_self, forall_const, not_true_eq_false, not_false_eq_true, e4] using this
  rcases hv with ⟨rfl, rfl⟩ | ⟨g, rfl⟩
  · simp only [r_message_list, abin_i_add, abin_i_sub, abin_i_mul, abin_i_eql, abin_i_neq, abin_i_lss, abin_i_leq, abin_i_gtr, abin_i_geq, abin_s_eql, abin_s_neq, bnd_some, bnd_none, branch_bool, gwant_bool, gwant_nothing, aguard_some, wantE_some, pickV_bool, nilck_ptr, nilck_elem, aoff_ptr, aoff_elem, aun_not, aun_neg, lenStr_str, lenSl_nils, lenSl_sl, lenSl_osl, aextract_tup, ld1uelem, idxStr_str, amin2uint, amax2uint, rangeStr_str, sliceStr_from, sliceStr_to, List.getElem?_cons_zero, List.getElem?_cons_succ, Option.map_some, Option.bind_some, Int.toNat_natCast, Int.toNat_zero, Int.le_refl, Bool.not_true, Bool.not_false, Bool.not_not, Bool.false_eq_true, if_true, if_false, decide_eq_true_eq, beq_self_eq_true, bool_ft, bool_tf, decide_true, decide_false, reduceCtorEq, cmpNil, cmpRes, boxCells, AV.known, AV.cells, Nat.zero_add, and_self, and_true, true_and, ite_self, forall_const, not_true_eq_false, not_false_eq_true]
    exact fin .nils .nils H (Ext.refl H) (.inl ⟨rfl, rfl⟩)
  · simp only [r_message_list, abin_i_add, abin_i_sub, abin_i_mul, abin_i_eql, abin_i_neq, abin_i_lss, abin_i_leq, abin_i_gtr, abin_i_geq, abin_s_eql, abin_s_neq, bnd_some, bnd_none, branch_bool, gwant_bool, gwant_nothing, aguard_some, wantE_some, pickV_bool, nilck_ptr, nilck_elem, aoff_ptr, aoff_elem, aun_not, aun_neg, lenStr_str, lenSl_nils, lenSl_sl, lenSl_osl, aextract_tup, ld1uelem, idxStr_str, amin2uint, amax2uint, rangeStr_str, sliceStr_from, sliceStr_to, List.getElem?_cons_zero, List.getElem?_cons_succ, Option.map_some, Option.bind_some, Int.toNat_natCast, Int.toNat_zero, Int.le_refl, Bool.not_true, Bool.not_false, Bool.not_not, Bool.false_eq_true, if_true, if_false, decide_eq_true_eq, beq_self_eq_true, bool_ft, bool_tf, decide_true, decide_false, reduceCtorEq, cmpNil, cmpRes, boxCells, AV.known, AV.cells, Nat.zero_add, and_self, and_true, true_and, ite_self, forall_const, not_true_eq_false, not_false_eq_true, List.length_map]
    refine c_list_loop kind l hs (fun vn H' hx hvn => fin _ vn H' hx hvn) l 0 .nils H rfl (.inl ⟨rfl, rfl⟩) (Ext.refl H) (Nat.zero_le _)
end Go.Va
