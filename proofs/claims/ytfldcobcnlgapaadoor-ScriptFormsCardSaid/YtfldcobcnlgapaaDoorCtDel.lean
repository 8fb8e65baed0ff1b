/-
  Contracts of the library's functions: what is left of a list; a text as a number.
-/
import Derived.Test.YtfldcobcnlgapaaDoorCtSplit
set_option linter.unusedVariables false
set_option linter.unusedSimpArgs false
set_option maxRecDepth 100000
namespace Go.Va
theorem Ext.kill {H H' : AH} (h : Ext H H') {o : Nat} (ho : H.next ≤ o) : Ext H (H'.kill o) :=
  ⟨h.next, fun o' ho' => by simp only [AH.kill]; rw [if_neg (by omega)]; exact h.get o' ho', fun c hc => h.tok c hc⟩
theorem flat_str (l : List Bs) : flat (l.map .str) = l.map .str := by
  induction l with
  | nil => rfl
  | cons a l ih => simp only [flat, List.map_cons, List.flatMap_cons] at ih ⊢; rw [ih]; rfl
/-- owned texts count as texts for good -/
theorem FrzK.strs {K : AV → AH → Prop} {H : AH} {o n cap : Nat} {l : List Bs} {rest : List AV} (hg : H.get o = some (.cells (l.map .str ++ rest))) (hn : l.length = n) (h : K (.sl .stuck 1 (l.map .str)) (H.kill o)) : FrzK K (.osl o 0 n cap) H := by
  subst hn
  refine .inr ⟨o, 0, l.length, cap, _, 1, l.map .str, rfl, hg, by simp, fun i e he => ?_, by omega, by simp, ?_, h⟩
  · simp only [List.getElem?_map, Option.map_eq_some_iff] at he
    obtain ⟨a, _, rfl⟩ := he; rfl
  · rw [flat_str]; simp
theorem c_frzSplit (s : Bs) (c : UInt8) (hs : s.length ≤ 1000000000) {H : AH} {K : AV → AH → Prop}
    (h : ∀ H', Ext H H' → K (.sl .stuck 1 ((splitB c s).map .str)) H') : frz r_strings_Split [.str s, .str [c]] H K := by
  unfold frz
  refine c_strings_Split s c hs fun H' o hx ho hg => ?_
  exact FrzK.strs (rest := []) (by simpa using hg) rfl (h _ (hx.kill ho))
theorem c_frzSplitO (s : Bs) (c : UInt8) (hs : s.length ≤ 1000000000) {H : AH} {K : AV → AH → Prop}
    (h : ∀ H' o, Ext H H' → H.next ≤ o → H'.get o = some (.cells ((splitB c s).map .str)) → K (.osl o 0 (splitB c s).length (splitB c s).length) H') : frz r_strings_Split [.str s, .str [c]] H K := by
  unfold frz
  exact c_strings_Split s c hs fun H' o hx ho hg => .inl (h H' o hx ho hg)

-- ---------------------------------------------------------------- DeleteFunc of texts
section
variable {ct : Tab} {f : AV} {p : Bs → Bool} {K : AV → AH → Prop}
theorem c_IndexFunc_strs (hp : ∀ w H K, K (.bool (p w)) H → acallv ct f [.str w] H K) (ws : List Bs) (hl : ws.length ≤ 1000000000) {H : AH} {o cap : Nat} (hg : H.get o = some (.cells (ws.map .str))) :
    ∀ (r : List Bs) (i : Nat), ws.drop i = r → (K (.int .i64 (match r.findIdx? p with | some j => ((i + j : Nat) : Int) | none => -1)) H) →
    LoopP (r_slices_IndexFunc_string_string_p52 ct K) [.osl o 0 ws.length cap, f, .int .i64 ws.length, .int .i64 i] H
  | [], i, hr, h => by
    refine .fold ?_
    have : ws.length ≤ i := by simpa using hr
    have hn : ¬ ((i : Int) < (ws.length : Int)) := by omega
    simpa [r_slices_IndexFunc_string_string_p52, hn] using h
  | w :: r, i, hr, h => by
    refine .fold ?_
    have hw : ws[i]? = some w := by
      have := congrArg (fun l => l[0]?) hr
      simpa using this
    have hlt : i < ws.length := (List.getElem?_eq_some_iff.1 hw).1
    have hr' : ws.drop (i + 1) = r := by rw [← List.drop_drop, hr]; rfl
    have h1 : ((i : Int) < (ws.length : Int)) := by omega
    have h2 : (0 : Int) ≤ (i : Int) ∧ (i : Int) < (ws.length : Int) := by omega
    have hww : IntKind.i64.wrap ((i : Int) + 1) = ((i + 1 : Nat) : Int) := by rw [wrap_i64 (by omega) (by omega)]; omega
    have hgi : (ws.map AV.str)[i]? = some (.str w) := by simp [hw]
    simp only [r_slices_IndexFunc_string_string_p52, abin_i_lss, bnd_some, branch_bool, decide_eq_true_eq, h1, if_true, idxA, h2, and_self, Int.toNat_natCast, Nat.mul_one, Nat.zero_add, ld1uptr hg, hgi]
    refine hp w H _ ?_
    simp only [branch_bool, abin_i_add, hww, bnd_some]
    split
    · rename_i hpw
      simpa [List.findIdx?_cons, hpw] using h
    · rename_i hpw
      refine c_IndexFunc_strs hp ws hl hg r (i + 1) hr' ?_
      simp only [List.findIdx?_cons, hpw, Bool.false_eq_true, if_false] at h
      cases hf : List.findIdx? p r with
      | none => simpa [hf] using h
      | some j => simp only [hf, Option.map_some] at h ⊢; rw [show i + 1 + j = i + (j + 1) by omega]; exact h

theorem rep_one (n : Nat) (x : AV) : rep n [x] = List.replicate n x := by simp [rep, List.flatten_replicate_singleton]
theorem c_DeleteFunc_loop (hp : ∀ w H K, K (.bool (p w)) H → acallv ct f [.str w] H K) (ws : List Bs) (hl : ws.length ≤ 1000000000) {H0 : AH} {o cap : Nat} (hcap : ws.length ≤ cap) (ho : H0.next ≤ o) 
    (h : ∀ H' k, Ext H0 H' → H'.get o = some (.cells ((ws.filter fun w => !p w).map .str ++ List.replicate k (.str []))) → K (.osl o 0 (ws.filter fun w => !p w).length cap) H') :
    ∀ (r : List Bs) (j : Nat) (H : AH) (F : List Bs) (junk : List AV), ws.drop j = r → j ≤ ws.length → (ws.take j).filter (fun w => !p w) = F → F.length + junk.length = j → 0 < junk.length → Ext H0 H → H.get o = some (.cells (F.map .str ++ junk ++ r.map .str)) →
    LoopP (r_slices_DeleteFunc_string_string_p244 ct K) [.osl o 0 ws.length cap, f, .int .i64 F.length, .int .i64 j] H
  | [], j, H, F, junk, hr, hjl, hF, hj, hjk, hx, hg => by
    refine .fold ?_
    have hlj : ws.length ≤ j := by simpa using hr
    have hn : ¬ ((j : Int) < (ws.length : Int)) := by omega
    have hF' : ws.filter (fun w => !p w) = F := by rw [← hF, List.take_of_length_le hlj]
    have e1 : (0 : Int) ≤ (F.length : Int) ∧ (F.length : Int) ≤ (ws.length : Int) := by omega
    have e2 : (0 : Int) ≤ (F.length : Int) ∧ (F.length : Int) ≤ (cap : Int) := by omega
    have e3 : ¬ (cap = F.length) := by omega
    have e4 : ¬ (ws.length - F.length = 0) := by omega
    have hjlen : junk.length = ws.length - F.length := by omega
    simp only [List.map_nil, List.append_nil] at hg
    rw [hF'] at h
    have hsets : sets (F.map AV.str ++ junk) F.length (rep (ws.length - F.length) [.str []]) = F.map AV.str ++ List.replicate (ws.length - F.length) (.str []) := by
      have := sets_all (rep (ws.length - F.length) [.str []]) (F.map AV.str) junk (by simp; omega)
      simp only [List.length_map] at this
      rw [this, rep_one]
    have hle : F.length + (ws.length - F.length) ≤ (F.map AV.str ++ junk).length ∧ ([AV.str []].all AV.one = true) := ⟨by simp; omega, rfl⟩
    simp only [r_slices_DeleteFunc_string_string_p244, lenSl_osl, bnd_some, abin_i_lss, branch_bool, decide_eq_true_eq, hn, if_false, sliceSl, abound, e1, e2, Int.toNat_natCast, and_self, if_true, Option.bind_some, Option.map_some, Nat.zero_add, Nat.mul_one, Nat.sub_zero, ite_self, Nat.zero_mul, Nat.add_zero,
      oclear, e3, e4, hg, hle, hsets]
    exact h _ _ (hx.put ho _) (get_put_self _ _ _)
  | w :: r, j, H, F, junk, hr, hjl, hF, hj, hjk, hx, hg => by
    refine .fold ?_
    have hw : ws[j]? = some w := by
      have := congrArg (fun l => l[0]?) hr
      simpa using this
    have hlt : j < ws.length := (List.getElem?_eq_some_iff.1 hw).1
    have hr' : ws.drop (j + 1) = r := by rw [← List.drop_drop, hr]; rfl
    have h1 : ((j : Int) < (ws.length : Int)) := by omega
    have h2 : (0 : Int) ≤ (j : Int) ∧ (j : Int) < (ws.length : Int) := by omega
    have h3 : (0 : Int) ≤ (F.length : Int) ∧ (F.length : Int) < (ws.length : Int) := by omega
    have hww : IntKind.i64.wrap ((j : Int) + 1) = ((j + 1 : Nat) : Int) := by rw [wrap_i64 (by omega) (by omega)]; omega
    have hwf : IntKind.i64.wrap ((F.length : Int) + 1) = ((F.length + 1 : Nat) : Int) := by rw [wrap_i64 (by omega) (by omega)]; omega
    have htk : ws.take (j + 1) = ws.take j ++ [w] := by
      rw [List.take_succ_eq_append_getElem hlt]; congr 2; exact (List.getElem?_eq_some_iff.1 hw).2
    have hgj : (F.map AV.str ++ junk ++ (w :: r).map AV.str)[j]? = some (.str w) := by
      rw [List.getElem?_append_right (by simp; omega)]
      have : j - (F.map AV.str ++ junk).length = 0 := by simp; omega
      rw [this]; rfl
    simp only [r_slices_DeleteFunc_string_string_p244, lenSl_osl, bnd_some, abin_i_lss, branch_bool, decide_eq_true_eq, h1, if_true, idxA, h2, and_self, Int.toNat_natCast, Nat.mul_one, Nat.zero_add, ld1uptr hg, hgj]
    refine hp w H _ ?_
    simp only [aun_not, bnd_some, branch_bool, h3, and_self, if_true, Int.toNat_natCast, abin_i_add, hww, hwf]
    cases hpw : p w with
    | false =>
      obtain ⟨y, junk', rfl⟩ : ∃ y junk', junk = y :: junk' := by
        cases junk with
        | nil => simp at hjk
        | cons y l => exact ⟨y, l, rfl⟩
      have hset : (F.map AV.str ++ (y :: junk') ++ (w :: r).map AV.str).set F.length (.str w) = (F ++ [w]).map AV.str ++ (junk' ++ [.str w]) ++ r.map AV.str := by
        have := set_mid (x := .str w) (F.map AV.str) (junk' ++ (w :: r).map AV.str) y
        simp only [List.length_map] at this
        simp only [List.append_assoc, List.cons_append] at this ⊢
        rw [this]; simp
      simp only [Bool.not_false, if_true, ast1uptr hg (v := .str w) rfl (show F.length < _ by simp), bnd_some, r_slices_DeleteFunc_string_string_p979, abin_i_add, hww, hset]
      have := c_DeleteFunc_loop hp ws hl hcap ho h r (j + 1) (H.put o (.cells ((F ++ [w]).map AV.str ++ (junk' ++ [.str w]) ++ r.map AV.str))) (F ++ [w]) (junk' ++ [.str w]) hr' (by omega)
        (by rw [htk, List.filter_append, hF]; simp [hpw]) (by simp at hj ⊢; omega) (by simp) (hx.put ho _) (get_put_self _ _ _)
      simpa using this
    | true =>
      simp only [Bool.not_true, Bool.false_eq_true, if_false, r_slices_DeleteFunc_string_string_p979, abin_i_add, bnd_some, hww]
      exact c_DeleteFunc_loop hp ws hl hcap ho h r (j + 1) H F (junk ++ [.str w]) hr' (by omega)
        (by rw [htk, List.filter_append, hF]; simp [hpw]) (by simp; omega) (by simp) hx (by rw [hg]; simp)
theorem findIdx_spec {α : Type} (p : α → Bool) : ∀ (l : List α) (i : Nat), l.findIdx? p = some i → ∃ a x b, l = a ++ x :: b ∧ a.length = i ∧ (∀ y ∈ a, p y = false) ∧ p x = true
  | [], i, h => by simp at h
  | y :: l, i, h => by
    rw [List.findIdx?_cons] at h
    split at h
    · rename_i hy; cases h; exact ⟨[], y, l, rfl, rfl, by simp, hy⟩
    · rename_i hy
      simp only [Option.map_eq_some_iff] at h
      obtain ⟨j, hj, rfl⟩ := h
      obtain ⟨a, x, b, rfl, h2, h3, h4⟩ := findIdx_spec p l j hj
      exact ⟨y :: a, x, b, rfl, by simp [h2], by intro z hz; rcases List.mem_cons.1 hz with rfl | hz; simpa using hy; exact h3 z hz, h4⟩
theorem c_DeleteFunc_strs (hp : ∀ w H K, K (.bool (p w)) H → acallv ct f [.str w] H K) (ws : List Bs) (hl : ws.length ≤ 1000000000) {H0 H : AH} {o cap : Nat} (hcap : ws.length ≤ cap) (ho : H0.next ≤ o) (hx : Ext H0 H) (hg : H.get o = some (.cells (ws.map .str)))
    (h : ∀ H' k, Ext H0 H' → H'.get o = some (.cells ((ws.filter fun w => !p w).map .str ++ List.replicate k (.str []))) → K (.osl o 0 (ws.filter fun w => !p w).length cap) H') :
    r_slices_DeleteFunc_string_string ct [.osl o 0 ws.length cap, f] H K := by
  simp only [r_slices_DeleteFunc_string_string, r_slices_IndexFunc_string_string, lenSl_osl, bnd_some]
  refine c_IndexFunc_strs hp ws hl hg ws 0 rfl ?_
  cases hf : ws.findIdx? p with
  | none =>
    have hall : ws.filter (fun w => !p w) = ws := by
      rw [List.filter_eq_self]; intro a ha
      have := List.findIdx?_eq_none_iff.1 hf a ha
      simpa using this
    rw [hall] at h
    have d0 : ((-1 : Int) == -1) = true := rfl
    simp only [abin_i_eql, d0, bnd_some, branch_bool, if_true]
    exact h H 0 hx (by simpa using hg)
  | some i =>
    obtain ⟨a, x, b, rfl, rfl, ha, hpx⟩ := findIdx_spec p ws i hf
    have d0 : ((a.length : Int) == -1) = false := by simp
    simp only [List.length_append, List.length_cons] at hl
    have hww : IntKind.i64.wrap ((a.length : Int) + 1) = ((a.length + 1 : Nat) : Int) := by rw [wrap_i64 (by omega) (by omega)]; omega
    have hfa : a.filter (fun w => !p w) = a := by rw [List.filter_eq_self]; intro y hy; simp [ha y hy]
    simp only [Nat.zero_add, abin_i_eql, d0, bnd_some, branch_bool, Bool.false_eq_true, if_false, abin_i_add, hww]
    refine c_DeleteFunc_loop hp _ (by simp; omega) hcap ho h b (a.length + 1) H a [.str x] (by rw [← List.drop_drop]; simp) (by simp) ?_ rfl (by simp) hx (by rw [hg]; simp)
    have : (a ++ x :: b).take (a.length + 1) = a ++ [x] := by
      rw [List.take_append, List.take_of_length_le (by omega)]; simp
    rw [this, List.filter_append, hfa]; simp [hpx]
end
end Go.Va
