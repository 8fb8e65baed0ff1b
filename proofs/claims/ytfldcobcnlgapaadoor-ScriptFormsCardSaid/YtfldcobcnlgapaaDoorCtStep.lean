/-
  Contracts: a step of a line's words.
-/
import Derived.Test.YtfldcobcnlgapaaDoorCtWords
set_option linter.unusedVariables false
set_option linter.unusedSimpArgs false
set_option maxRecDepth 100000
namespace Go.Va
def wRun : Bs := [114, 117, 110]
def wKill : Bs := [107, 105, 108, 108]
def wShut : Bs := [115, 104, 117, 116]
def wAck : Bs := [97, 99, 107]
def wAsk : Bs := [97, 115, 107]
def wWelcome : Bs := [119, 101, 108, 99, 111, 109, 101]
def wHello : Bs := [104, 101, 108, 108, 111]
def wReport : Bs := [114, 101, 112, 111, 114, 116]
def wGone : Bs := [103, 111, 110, 101]
def wTick : Bs := [116, 105, 99, 107]
def wFuse : Bs := [102, 117, 115, 101]
def wCrash : Bs := [99, 114, 97, 115, 104]
def kindsL : List (Bs × Int) := [(wRun, 1), (wKill, 2), (wShut, 3), (wAck, 4), (wAsk, 5), (wWelcome, 6), (wHello, 7), (wReport, 8), (wGone, 9)]
def kindsEs : List AEnt := kindsL.zipIdx.map fun x => ⟨.str x.1.1, .int .i64 x.1.2, x.2⟩
def kindOf (s : Bs) : Option Int := kindsL.lookup s
theorem c_script_kinds {H : AH} {K : AV → AH → Prop} (h : K (.map H.next) (H.add (.map kindsEs 9))) : r_script_kinds [] H K := by
  have e : ∀ (es : List AEnt) (c : Nat) (s : Bs) (n : Int), afind (.one .str) (.str s) es 0 = some none → mput (.one .str) (.map H.next) (.str s) (.int .i64 n) (H.add (.map es c)) = some (H.add (.map (es ++ [⟨.str s, .int .i64 n, c⟩]) (c + 1))) := by
    intro es c s n ha
    simp [mput, get_add_self, keyIs, ha, add_put]
  simp only [r_script_kinds]
  rw [e _ _ _ _ rfl, bnd_some, e _ _ _ _ rfl, bnd_some, e _ _ _ _ rfl, bnd_some, e _ _ _ _ rfl, bnd_some, e _ _ _ _ rfl, bnd_some, e _ _ _ _ rfl, bnd_some, e _ _ _ _ rfl, bnd_some, e _ _ _ _ rfl, bnd_some, e _ _ _ _ rfl, bnd_some]
  exact h
theorem afind_lookup (s : Bs) : ∀ (L : List (Bs × Int)) (k i : Nat), ∃ r, afind (.one .str) (.str s) ((L.zipIdx k).map fun x => ⟨.str x.1.1, .int .i64 x.1.2, x.2⟩) i = some r ∧ (r.map Prod.snd) = (L.lookup s).map (AV.int .i64)
  | [], k, i => ⟨none, rfl, rfl⟩
  | (a, n) :: L, k, i => by
    simp only [List.zipIdx_cons, List.map_cons, afind, keySame, same1, List.lookup_cons]
    cases hs : (s == a) with
    | true => exact ⟨_, rfl, rfl⟩
    | false => exact afind_lookup s L (k + 1) (i + 1)
theorem look_kinds (s : Bs) {H : AH} {r : Nat} (h : H.get r = some (.map kindsEs 9)) : look (.one .str) (.int .i64 0) (.map r) (.str s) true H = some (.tup [.int .i64 ((kindOf s).getD 0), .bool (kindOf s).isSome]) := by
  obtain ⟨x, h1, h2⟩ := afind_lookup s kindsL 0 0
  have e : afind (.one .str) (.str s) kindsEs 0 = some x := h1
  simp only [look, keyIs, if_true, ments, h, Option.bind_some, e, Option.map_some]
  unfold kindOf
  cases hk : List.lookup s kindsL with
  | none =>
    rw [hk] at h2
    cases x with
    | none => rfl
    | some p => simp at h2
  | some n =>
    rw [hk] at h2
    cases x with
    | none => simp at h2
    | some p => obtain ⟨j, v⟩ := p; simp at h2; subst h2; rfl

-- ---------------------------------------------------------------- fields
def fieldW (f : UInt8) (w : Wds) (m : Msg) : Wds × Msg :=
  if f = 70 then let r := nextW w; (r.2, { m with f := r.1 })
  else if f = 69 then let r := nextW w; (r.2, { m with e := r.1 })
  else if f = 84 then let r := nextW w; (r.2, { m with t := r.1 })
  else if f = 78 then let r := numberW w; (r.2, { m with n := r.1 })
  else if f = 83 then let r := numberW w; (r.2, { m with state := r.1 })
  else if f = 85 then let r := numberW w; (r.2, { m with num := r.1 })
  else if f = 80 then let r := numberW w; (r.2, { m with epoch := r.1 })
  else if f = 73 then let r := itemsW (m.kind == 1) w; (r.2, { m with items := r.1 })
  else (w, m)
def fieldsW : Bs → Wds → Msg → Wds × Msg
  | [], w, m => (w, m)
  | f :: fs, w, m => let r := fieldW f w m; fieldsW fs r.1 r.2
theorem itemsW_small (needs : Bool) : ∀ (n : Nat) (w : Wds), w.l.length = n → WSmall w.l → WSmall (itemsW needs w).2.l ∧ (itemsW needs w).1.length ≤ n ∧ ∀ i ∈ (itemsW needs w).1, ItemSmall i := by
  intro n
  induction n using Nat.strongRecOn with
  | ind n ih =>
    intro w hn hw
    rw [itemsW_eq]
    by_cases hc : 0 < w.l.length ∧ w.bad = false
    · rw [dif_pos hc]
      have hlt := itemW_lt needs w hc.1
      obtain ⟨h1, h2⟩ := itemW_small (needs := needs) hw
      obtain ⟨a, b, c⟩ := ih _ (by omega) (itemW needs w).2 rfl h1
      refine ⟨a, by simp; omega, fun i hi => ?_⟩
      rcases List.mem_cons.1 hi with rfl | hi
      · exact h2
      · exact c i hi
    · rw [dif_neg hc]
      exact ⟨hw, by simp, by simp⟩
theorem fieldW_small (f : UInt8) (w : Wds) (m : Msg) (hw : WSmall w.l) (hm : MsgSmall m) : WSmall (fieldW f w m).1.l ∧ MsgSmall (fieldW f w m).2 := by
  obtain ⟨hf, he, ht, hi⟩ := hm
  obtain ⟨n1, n2⟩ := nextW_small hw
  obtain ⟨k1, k2⟩ := numberW_small hw
  obtain ⟨i1, i2, i3⟩ := itemsW_small (m.kind == 1) _ w rfl hw
  unfold fieldW
  split
  · exact ⟨n1, n2, he, ht, hi⟩
  split
  · exact ⟨n1, hf, n2, ht, hi⟩
  split
  · exact ⟨n1, hf, he, n2, hi⟩
  split
  · exact ⟨k1, hf, he, ht, hi⟩
  split
  · exact ⟨k1, hf, he, ht, hi⟩
  split
  · exact ⟨k1, hf, he, ht, hi⟩
  split
  · exact ⟨k1, hf, he, ht, hi⟩
  split
  · exact ⟨i1, hf, he, ht, by have := hw.1; simp only; omega, i3⟩
  · exact ⟨hw, hf, he, ht, hi⟩
theorem IsGrow.one {α : Type} {sz : Nat} {enc : α → AV} {H0 H : AH} {v : AV} {l : List α} (h : IsGrow sz enc H0 v l H) : v.one = true := by
  rcases h with ⟨rfl, _⟩ | ⟨c, t, rfl, _⟩ <;> rfl
theorem IsSl.one {α : Type} {sz : Nat} {enc : α → AV} {v : AV} {l : List α} (h : IsSl sz enc v l) : v.one = true := by
  rcases h with ⟨rfl, _⟩ | ⟨g, rfl⟩ <;> rfl
theorem c_words_field (o p : Nat) (f : UInt8) (w : Wds) (s : Step) (hw : WSmall w.l) {H : AH} (ho : o < H.next) (hp : p < H.next) (hop : o ≠ p) (hs : IsWords H o w) {iv : AV} (hiv : IsItems iv s.msg.items) (hobj : H.get p = some (.cells (stepCells s iv))) {K : AV → AH → Prop}
    (h : ∀ H' iv', ExtO [o, p] H H' → IsWords H' o (fieldW f w s.msg).1 → H'.get p = some (.cells (stepCells { s with msg := (fieldW f w s.msg).2 } iv')) → IsItems iv' (fieldW f w s.msg).2.items → K (.tup []) H') : r_script_words_field [.ptr o 0, .ptr p 1, .int .i32 f.toNat] H K := by
  have hsub : ∀ x ∈ [o], x ∈ [o, p] := by simp
  have text : ∀ (k : Nat) (m' : Msg), m'.items = s.msg.items → (∀ iv, (stepCells s iv).set (1 + k) (.str (nextW w).1) = stepCells { s with msg := m' } iv) → 1 + k < 12 → 
      (∀ H' iv', ExtO [o, p] H H' → IsWords H' o (nextW w).2 → H'.get p = some (.cells (stepCells { s with msg := m' } iv')) → IsItems iv' m'.items → K (.tup []) H') →
      r_script_words_next [.ptr o 0] H fun t H1 => bnd (ast 1 (.ptr p (1 + k)) t H1) fun H2 => K (.tup []) H2 := by
    intro k m' hmi hset hk hK
    refine c_words_next o w hw ho hs fun H1 hx1 hs1 => ?_
    have hobj1 := hx1.get_lt hp (by simp [Ne.symm hop]) hobj
    rw [ast1uptr hobj1 (i := 1 + k) (v := .str (nextW w).1) rfl (by show 1 + k < 12; exact hk), bnd_some, hset]
    refine hK _ iv ((hx1.mono hsub).put (.inl (by simp)) _) ?_ (get_put_self _ _ _) (by rw [hmi]; exact hiv)
    obtain ⟨g, hg⟩ := hs1
    exact ⟨g, by rw [get_put_ne _ _ hop]; exact hg⟩
  have num : ∀ (k : Nat) (m' : Msg), m'.items = s.msg.items → (∀ iv, (stepCells s iv).set (1 + k) (.int .i64 (numberW w).1) = stepCells { s with msg := m' } iv) → 1 + k < 12 → 
      (∀ H' iv', ExtO [o, p] H H' → IsWords H' o (numberW w).2 → H'.get p = some (.cells (stepCells { s with msg := m' } iv')) → IsItems iv' m'.items → K (.tup []) H') →
      r_script_words_number [.ptr o 0] H fun t H1 => bnd (ast 1 (.ptr p (1 + k)) t H1) fun H2 => K (.tup []) H2 := by
    intro k m' hmi hset hk hK
    refine c_words_number o w hw ho hs fun H1 hx1 hs1 => ?_
    have hobj1 := hx1.get_lt hp (by simp [Ne.symm hop]) hobj
    rw [ast1uptr hobj1 (i := 1 + k) (v := .int .i64 (numberW w).1) rfl (by show 1 + k < 12; exact hk), bnd_some, hset]
    refine hK _ iv ((hx1.mono hsub).put (.inl (by simp)) _) ?_ (get_put_self _ _ _) (by rw [hmi]; exact hiv)
    obtain ⟨g, hg⟩ := hs1
    exact ⟨g, by rw [get_put_ne _ _ hop]; exact hg⟩
  simp only [r_script_words_field, abin_i_add, abin_i_sub, abin_i_mul, abin_i_eql, abin_i_neq, abin_i_lss, abin_i_leq, abin_i_gtr, abin_i_geq, abin_s_eql, abin_s_neq, bnd_some, bnd_none, branch_bool, gwant_bool, gwant_nothing, aguard_some, wantE_some, pickV_bool, nilck_ptr, nilck_elem, aoff_ptr, aoff_elem, aun_not, aun_neg, lenStr_str, lenSl_nils, lenSl_sl, lenSl_osl, aextract_tup, ld1uelem, idxStr_str, amin2uint, amax2uint, rangeStr_str, sliceStr_from, sliceStr_to, List.getElem?_cons_zero, List.getElem?_cons_succ, Option.map_some, Option.bind_some, Int.toNat_natCast, Int.toNat_zero, Int.le_refl, Bool.not_true, Bool.not_false, Bool.not_not, Bool.false_eq_true, if_true, if_false, decide_eq_true_eq, beq_self_eq_true, bool_ft, bool_tf, decide_true, decide_false, reduceCtorEq, cmpNil, cmpRes, boxCells, AV.known, AV.cells, Nat.zero_add, and_self, and_true, true_and, ite_self, forall_const, not_true_eq_false, not_false_eq_true]
  unfold fieldW at h
  by_cases h1 : f = 70
  · subst h1
    exact text 1 { s.msg with f := (nextW w).1 } rfl (fun _ => rfl) (by omega) (by simpa using h)
  by_cases h2 : f = 69
  · subst h2
    exact text 2 { s.msg with e := (nextW w).1 } rfl (fun _ => rfl) (by omega) (by simpa using h)
  by_cases h3 : f = 84
  · subst h3
    exact text 3 { s.msg with t := (nextW w).1 } rfl (fun _ => rfl) (by omega) (by simpa using h)
  by_cases h4 : f = 78
  · subst h4
    exact num 4 { s.msg with n := (numberW w).1 } rfl (fun _ => rfl) (by omega) (by simpa using h)
  by_cases h5 : f = 83
  · subst h5
    exact num 5 { s.msg with state := (numberW w).1 } rfl (fun _ => rfl) (by omega) (by simpa using h)
  by_cases h6 : f = 85
  · subst h6
    exact num 6 { s.msg with num := (numberW w).1 } rfl (fun _ => rfl) (by omega) (by simpa using h)
  by_cases h7 : f = 80
  · subst h7
    exact num 7 { s.msg with epoch := (numberW w).1 } rfl (fun _ => rfl) (by omega) (by simpa using h)
  by_cases h8 : f = 73
  · subst h8
    have e1 : (stepCells s iv)[1]? = some (.int .i64 s.msg.kind) := rfl
    simp only [h1, h2, h3, h4, h5, h6, h7, if_false, if_true] at h
    have d : ∀ c : Int, c ∈ [(70 : Int), 69, 84, 78, 83, 85, 80] → ((((73 : UInt8).toNat : Nat) : Int) == c) = false := by decide
    simp only [d 70 (by simp), d 69 (by simp), d 84 (by simp), d 78 (by simp), d 83 (by simp), d 85 (by simp), d 80 (by simp), abin_i_add, abin_i_sub, abin_i_mul, abin_i_eql, abin_i_neq, abin_i_lss, abin_i_leq, abin_i_gtr, abin_i_geq, abin_s_eql, abin_s_neq, bnd_some, bnd_none, branch_bool, gwant_bool, gwant_nothing, aguard_some, wantE_some, pickV_bool, nilck_ptr, nilck_elem, aoff_ptr, aoff_elem, aun_not, aun_neg, lenStr_str, lenSl_nils, lenSl_sl, lenSl_osl, aextract_tup, ld1uelem, idxStr_str, amin2uint, amax2uint, rangeStr_str, sliceStr_from, sliceStr_to, List.getElem?_cons_zero, List.getElem?_cons_succ, Option.map_some, Option.bind_some, Int.toNat_natCast, Int.toNat_zero, Int.le_refl, Bool.not_true, Bool.not_false, Bool.not_not, Bool.false_eq_true, if_true, if_false, decide_eq_true_eq, beq_self_eq_true, bool_ft, bool_tf, decide_true, decide_false, reduceCtorEq, cmpNil, cmpRes, boxCells, AV.known, AV.cells, Nat.zero_add, and_self, and_true, true_and, ite_self, forall_const, not_true_eq_false, not_false_eq_true, Nat.add_zero, ld1uptr hobj, e1, show ((((73 : UInt8).toNat : Nat) : Int) == 73) = true from rfl, r_script_words_items]
    refine c_items_loop o (s.msg.kind == 1) ho _ w rfl hw [] .nils H (by have := hw.1; simp; omega) (.inl ⟨rfl, rfl⟩) hs (ExtO.refl _ _) fun v' H1 hg1 hs1 hx1 => ?_
    have hobj1 := hx1.get_lt hp (by simp [Ne.symm hop]) hobj
    have hsl := hg1.isSl
    simp only [List.nil_append] at hsl
    have est := ast1uptr hobj1 (i := 9) (v := v') hg1.one (by show 9 < 12; omega)
    simp only [abin_i_add, abin_i_sub, abin_i_mul, abin_i_eql, abin_i_neq, abin_i_lss, abin_i_leq, abin_i_gtr, abin_i_geq, abin_s_eql, abin_s_neq, bnd_some, bnd_none, branch_bool, gwant_bool, gwant_nothing, aguard_some, wantE_some, pickV_bool, nilck_ptr, nilck_elem, aoff_ptr, aoff_elem, aun_not, aun_neg, lenStr_str, lenSl_nils, lenSl_sl, lenSl_osl, aextract_tup, ld1uelem, idxStr_str, amin2uint, amax2uint, rangeStr_str, sliceStr_from, sliceStr_to, List.getElem?_cons_zero, List.getElem?_cons_succ, Option.map_some, Option.bind_some, Int.toNat_natCast, Int.toNat_zero, Int.le_refl, Bool.not_true, Bool.not_false, Bool.not_not, Bool.false_eq_true, if_true, if_false, decide_eq_true_eq, beq_self_eq_true, bool_ft, bool_tf, decide_true, decide_false, reduceCtorEq, cmpNil, cmpRes, boxCells, AV.known, AV.cells, Nat.zero_add, and_self, and_true, true_and, ite_self, forall_const, not_true_eq_false, not_false_eq_true, Nat.reduceAdd, est]
    refine h _ v' ((hx1.mono hsub).put (.inl (by simp)) _) ?_ (by rw [get_put_self]; rfl) hsl
    obtain ⟨g, hg⟩ := hs1
    exact ⟨g, by rw [get_put_ne _ _ hop]; exact hg⟩
  · simp only [h1, h2, h3, h4, h5, h6, h7, h8, if_false] at h
    have d : ∀ c : UInt8, f ≠ c → (((f.toNat : Nat) : Int) == ((c.toNat : Nat) : Int)) = false := by
      intro c hc
      simp only [beq_eq_false_iff_ne, ne_eq]
      intro e; exact hc (UInt8.toNat_inj.1 (by omega))
    have d1 := d 70 h1; have d2 := d 69 h2; have d3 := d 84 h3; have d4 := d 78 h4; have d5 := d 83 h5; have d6 := d 85 h6; have d7 := d 80 h7; have d8 := d 73 h8
    have t1 : (((70 : UInt8).toNat : Nat) : Int) = 70 := rfl
    have t2 : (((69 : UInt8).toNat : Nat) : Int) = 69 := rfl
    have t3 : (((84 : UInt8).toNat : Nat) : Int) = 84 := rfl
    have t4 : (((78 : UInt8).toNat : Nat) : Int) = 78 := rfl
    have t5 : (((83 : UInt8).toNat : Nat) : Int) = 83 := rfl
    have t6 : (((85 : UInt8).toNat : Nat) : Int) = 85 := rfl
    have t7 : (((80 : UInt8).toNat : Nat) : Int) = 80 := rfl
    have t8 : (((73 : UInt8).toNat : Nat) : Int) = 73 := rfl
    rw [t1] at d1; rw [t2] at d2; rw [t3] at d3; rw [t4] at d4; rw [t5] at d5; rw [t6] at d6; rw [t7] at d7; rw [t8] at d8
    simp only [d1, d2, d3, d4, d5, d6, d7, d8, abin_i_add, abin_i_sub, abin_i_mul, abin_i_eql, abin_i_neq, abin_i_lss, abin_i_leq, abin_i_gtr, abin_i_geq, abin_s_eql, abin_s_neq, bnd_some, bnd_none, branch_bool, gwant_bool, gwant_nothing, aguard_some, wantE_some, pickV_bool, nilck_ptr, nilck_elem, aoff_ptr, aoff_elem, aun_not, aun_neg, lenStr_str, lenSl_nils, lenSl_sl, lenSl_osl, aextract_tup, ld1uelem, idxStr_str, amin2uint, amax2uint, rangeStr_str, sliceStr_from, sliceStr_to, List.getElem?_cons_zero, List.getElem?_cons_succ, Option.map_some, Option.bind_some, Int.toNat_natCast, Int.toNat_zero, Int.le_refl, Bool.not_true, Bool.not_false, Bool.not_not, Bool.false_eq_true, if_true, if_false, decide_eq_true_eq, beq_self_eq_true, bool_ft, bool_tf, decide_true, decide_false, reduceCtorEq, cmpNil, cmpRes, boxCells, AV.known, AV.cells, Nat.zero_add, and_self, and_true, true_and, ite_self, forall_const, not_true_eq_false, not_false_eq_true]
    exact h H iv (ExtO.refl _ _) hs hobj hiv
end Go.Va
