/-
  Contracts: messages.
-/
import Derived.Test.YtfldcobcnlgapaaDoorCtNum
set_option linter.unusedVariables false
set_option linter.unusedSimpArgs false
set_option maxRecDepth 100000
namespace Go.Va
-- ---------------------------------------------------------------- the model's words
structure Item where
  t : Bs
  a : Nat
  b : Nat
  deriving DecidableEq
structure Msg where
  kind : Int := 0
  f : Bs := []
  e : Bs := []
  t : Bs := []
  n : Int := 0
  state : Int := 0
  num : Int := 0
  epoch : Int := 0
  items : List Item := []
  deriving DecidableEq
structure Step where
  kind : Int := 0
  msg : Msg := {}
  n : Int := 0
  m : Int := 0
  deriving DecidableEq
def encItem (i : Item) : AV := .agg [.str i.t, .cplx .f64 (fl i.a) (fl i.b)]
/-- a slice that holds a list's elements -/
def IsSl {α : Type} (sz : Nat) (enc : α → AV) (v : AV) (l : List α) : Prop := (v = .nils ∧ l = []) ∨ ∃ g, v = .sl g sz (l.map enc)
abbrev IsItems := IsSl 2 encItem
def ItemSmall (i : Item) : Prop := i.a < 9007199254740992 ∧ i.b < 9007199254740992 ∧ i.t.length ≤ 1000000000
def ItemsSmall (l : List Item) : Prop := l.length ≤ 1000000000 ∧ ∀ i ∈ l, ItemSmall i
def msgCells (m : Msg) (iv : AV) : List AV := [.int .i64 m.kind, .str m.f, .str m.e, .str m.t, .int .i64 m.n, .int .i64 m.state, .int .i64 m.num, .int .i64 m.epoch, iv]
def stepCells (s : Step) (iv : AV) : List AV := .int .i64 s.kind :: msgCells s.msg iv ++ [.int .i64 s.n, .int .i64 s.m]

def rightN (s : Bs) : Bool := s != [] && decide (s.length ≤ 8) && s.all isNm
def fieldsOf (k : Int) : Bs :=
  if k = 1 then [70, 69, 73] else if k = 2 then [70, 84] else if k = 3 then [70] else if k = 4 then [70, 84, 85, 80] else if k = 5 then [70, 73] else if k = 6 then [] else
  if k = 7 ∨ k = 9 ∨ k = 13 ∨ k = 16 ∨ k = 17 then [70, 69, 78] else if k = 8 then [70, 69, 78, 84, 83] else if k = 10 then [80] else if k = 11 then [70, 84, 85, 80, 83] else if k = 12 then [70, 84, 83] else
  if k = 14 then [70, 69, 78, 73] else if k = 15 then [70, 69, 78, 84] else [63]
def needOk (a b : Nat) : Bool := !(a == 0 && b == 0) && decide (a ≤ 1000) && decide (b ≤ 1000)
def allNames (l : List Bs) : Bool := l.all rightN && decide l.Nodup
def listOk (kind : Int) (l : List Item) : Bool :=
  allNames (l.map (·.t)) && decide (l.length ≤ 4) &&
  (if kind = 5 then l.all (fun i => i.a == 0 && i.b == 0) else l.all (fun i => needOk i.a i.b) && (decide (l.length = 1) || decide (kind = 1) && decide (0 < l.length)))
def textOk (fs : Bs) (f : UInt8) (s : Bs) : Bool := if fs.contains f then rightN s else s == []
def numberOk (f : UInt8) (n : Int) : Bool := if f = 83 then decide (1 ≤ n) && decide (n ≤ 7) else decide (1 ≤ n) && decide (n ≤ 2147483647)
def numOk (fs : Bs) (f : UInt8) (n : Int) : Bool := if fs.contains f then numberOk f n else n == 0
def checkM (m : Msg) : Bool :=
  let fs := fieldsOf m.kind
  fs != [63] && (textOk fs 70 m.f && textOk fs 69 m.e && textOk fs 84 m.t) && (numOk fs 78 m.n && numOk fs 83 m.state && numOk fs 85 m.num && numOk fs 80 m.epoch) &&
  (if fs.contains 73 then listOk m.kind m.items else m.items.isEmpty)

-- ---------------------------------------------------------------- needs
theorem c_need_within (a b m : Nat) (ha : a < 9007199254740992) (hb : b < 9007199254740992) (hm : m < 9007199254740992) {H : AH} {K : AV → AH → Prop} (h : K (.bool (decide (a ≤ m) && decide (b ≤ m))) H) :
    r_need_within [.cplx .f64 (fl a) (fl b), .int .i64 m] H K := by
  simp only [r_need_within, areal, abin_i_add, abin_i_sub, abin_i_mul, abin_i_eql, abin_i_neq, abin_i_lss, abin_i_leq, abin_i_gtr, abin_i_geq, abin_s_eql, abin_s_neq, bnd_some, bnd_none, branch_bool, gwant_bool, gwant_nothing, aguard_some, wantE_some, pickV_bool, nilck_ptr, nilck_elem, aoff_ptr, aoff_elem, aun_not, aun_neg, lenStr_str, lenSl_nils, lenSl_sl, lenSl_osl, aextract_tup, ld1uelem, idxStr_str, amin2uint, amax2uint, rangeStr_str, sliceStr_from, sliceStr_to, List.getElem?_cons_zero, List.getElem?_cons_succ, Option.map_some, Option.bind_some, Int.toNat_natCast, Int.toNat_zero, Int.le_refl, Bool.not_true, Bool.not_false, Bool.not_not, Bool.false_eq_true, if_true, if_false, decide_eq_true_eq, beq_self_eq_true, bool_ft, bool_tf, decide_true, decide_false, reduceCtorEq, cmpNil, cmpRes, boxCells, AV.known, AV.cells, Nat.zero_add, and_self, and_true, true_and, ite_self, forall_const, not_true_eq_false, not_false_eq_true, aimag]
  refine c_need_part a m ha hm ?_
  simp only [abin_i_add, abin_i_sub, abin_i_mul, abin_i_eql, abin_i_neq, abin_i_lss, abin_i_leq, abin_i_gtr, abin_i_geq, abin_s_eql, abin_s_neq, bnd_some, bnd_none, branch_bool, gwant_bool, gwant_nothing, aguard_some, wantE_some, pickV_bool, nilck_ptr, nilck_elem, aoff_ptr, aoff_elem, aun_not, aun_neg, lenStr_str, lenSl_nils, lenSl_sl, lenSl_osl, aextract_tup, ld1uelem, idxStr_str, amin2uint, amax2uint, rangeStr_str, sliceStr_from, sliceStr_to, List.getElem?_cons_zero, List.getElem?_cons_succ, Option.map_some, Option.bind_some, Int.toNat_natCast, Int.toNat_zero, Int.le_refl, Bool.not_true, Bool.not_false, Bool.not_not, Bool.false_eq_true, if_true, if_false, decide_eq_true_eq, beq_self_eq_true, bool_ft, bool_tf, decide_true, decide_false, reduceCtorEq, cmpNil, cmpRes, boxCells, AV.known, AV.cells, Nat.zero_add, and_self, and_true, true_and, ite_self, forall_const, not_true_eq_false, not_false_eq_true]
  by_cases h1 : a ≤ m
  · simp only [h1, abin_i_add, abin_i_sub, abin_i_mul, abin_i_eql, abin_i_neq, abin_i_lss, abin_i_leq, abin_i_gtr, abin_i_geq, abin_s_eql, abin_s_neq, bnd_some, bnd_none, branch_bool, gwant_bool, gwant_nothing, aguard_some, wantE_some, pickV_bool, nilck_ptr, nilck_elem, aoff_ptr, aoff_elem, aun_not, aun_neg, lenStr_str, lenSl_nils, lenSl_sl, lenSl_osl, aextract_tup, ld1uelem, idxStr_str, amin2uint, amax2uint, rangeStr_str, sliceStr_from, sliceStr_to, List.getElem?_cons_zero, List.getElem?_cons_succ, Option.map_some, Option.bind_some, Int.toNat_natCast, Int.toNat_zero, Int.le_refl, Bool.not_true, Bool.not_false, Bool.not_not, Bool.false_eq_true, if_true, if_false, decide_eq_true_eq, beq_self_eq_true, bool_ft, bool_tf, decide_true, decide_false, reduceCtorEq, cmpNil, cmpRes, boxCells, AV.known, AV.cells, Nat.zero_add, and_self, and_true, true_and, ite_self, forall_const, not_true_eq_false, not_false_eq_true]
    refine c_need_part b m hb hm ?_
    simpa [h1] using h
  · simpa [h1] using h
theorem cplx_zero {P : Program} {t : TypeId} (a b : Nat) (ha : a < 9007199254740992) (hb : b < 9007199254740992) : abin P .neq t (.cplx .f64 (fl a) (fl b)) (.cplx .f64 0 0) = some (.bool !(a == 0 && b == 0)) := by
  have e0 := floatEqv_fl a 0 ha (by omega)
  have e1 := floatEqv_fl b 0 hb (by omega)
  rw [fl_zero] at e0 e1
  simp only [abin, if_true, cplxOp, e0, e1]
  congr 2
theorem c_need_Right (a b : Nat) (ha : a < 9007199254740992) (hb : b < 9007199254740992) {H : AH} {K : AV → AH → Prop} (h : K (.bool (needOk a b)) H) : r_need_Right [.cplx .f64 (fl a) (fl b)] H K := by
  simp only [r_need_Right, cplx_zero a b ha hb, abin_i_add, abin_i_sub, abin_i_mul, abin_i_eql, abin_i_neq, abin_i_lss, abin_i_leq, abin_i_gtr, abin_i_geq, abin_s_eql, abin_s_neq, bnd_some, bnd_none, branch_bool, gwant_bool, gwant_nothing, aguard_some, wantE_some, pickV_bool, nilck_ptr, nilck_elem, aoff_ptr, aoff_elem, aun_not, aun_neg, lenStr_str, lenSl_nils, lenSl_sl, lenSl_osl, aextract_tup, ld1uelem, idxStr_str, amin2uint, amax2uint, rangeStr_str, sliceStr_from, sliceStr_to, List.getElem?_cons_zero, List.getElem?_cons_succ, Option.map_some, Option.bind_some, Int.toNat_natCast, Int.toNat_zero, Int.le_refl, Bool.not_true, Bool.not_false, Bool.not_not, Bool.false_eq_true, if_true, if_false, decide_eq_true_eq, beq_self_eq_true, bool_ft, bool_tf, decide_true, decide_false, reduceCtorEq, cmpNil, cmpRes, boxCells, AV.known, AV.cells, Nat.zero_add, and_self, and_true, true_and, ite_self, forall_const, not_true_eq_false, not_false_eq_true]
  by_cases h0 : (a == 0 && b == 0) = true
  · simp only [needOk, h0] at h
    simpa [h0] using h
  · have h0' : (a == 0 && b == 0) = false := by simpa using h0
    simp only [h0', abin_i_add, abin_i_sub, abin_i_mul, abin_i_eql, abin_i_neq, abin_i_lss, abin_i_leq, abin_i_gtr, abin_i_geq, abin_s_eql, abin_s_neq, bnd_some, bnd_none, branch_bool, gwant_bool, gwant_nothing, aguard_some, wantE_some, pickV_bool, nilck_ptr, nilck_elem, aoff_ptr, aoff_elem, aun_not, aun_neg, lenStr_str, lenSl_nils, lenSl_sl, lenSl_osl, aextract_tup, ld1uelem, idxStr_str, amin2uint, amax2uint, rangeStr_str, sliceStr_from, sliceStr_to, List.getElem?_cons_zero, List.getElem?_cons_succ, Option.map_some, Option.bind_some, Int.toNat_natCast, Int.toNat_zero, Int.le_refl, Bool.not_true, Bool.not_false, Bool.not_not, Bool.false_eq_true, if_true, if_false, decide_eq_true_eq, beq_self_eq_true, bool_ft, bool_tf, decide_true, decide_false, reduceCtorEq, cmpNil, cmpRes, boxCells, AV.known, AV.cells, Nat.zero_add, and_self, and_true, true_and, ite_self, forall_const, not_true_eq_false, not_false_eq_true]
    refine c_need_within a b 1000 ha hb (by omega) ?_
    simp only [needOk, h0', Bool.not_false, Bool.true_and] at h
    simpa using h

-- ---------------------------------------------------------------- kinds and fields
theorem c_message_Fields (k : Int) {H : AH} {K : AV → AH → Prop} (h : K (.str (fieldsOf k)) H) : r_message_Fields [.int .i64 k] H K := by
  simp only [r_message_Fields, abin_i_add, abin_i_sub, abin_i_mul, abin_i_eql, abin_i_neq, abin_i_lss, abin_i_leq, abin_i_gtr, abin_i_geq, abin_s_eql, abin_s_neq, bnd_some, bnd_none, branch_bool, gwant_bool, gwant_nothing, aguard_some, wantE_some, pickV_bool, nilck_ptr, nilck_elem, aoff_ptr, aoff_elem, aun_not, aun_neg, lenStr_str, lenSl_nils, lenSl_sl, lenSl_osl, aextract_tup, ld1uelem, idxStr_str, amin2uint, amax2uint, rangeStr_str, sliceStr_from, sliceStr_to, List.getElem?_cons_zero, List.getElem?_cons_succ, Option.map_some, Option.bind_some, Int.toNat_natCast, Int.toNat_zero, Int.le_refl, Bool.not_true, Bool.not_false, Bool.not_not, Bool.false_eq_true, if_true, if_false, decide_eq_true_eq, beq_self_eq_true, bool_ft, bool_tf, decide_true, decide_false, reduceCtorEq, cmpNil, cmpRes, boxCells, AV.known, AV.cells, Nat.zero_add, and_self, and_true, true_and, ite_self, forall_const, not_true_eq_false, not_false_eq_true, r_message_Fields_p221183]
  by_cases h1 : k = 1
  · subst h1; simpa [fieldsOf] using h
  by_cases h2 : k = 2
  · subst h2; simpa [fieldsOf] using h
  by_cases h3 : k = 3
  · subst h3; simpa [fieldsOf] using h
  by_cases h4 : k = 4
  · subst h4; simpa [fieldsOf] using h
  by_cases h5 : k = 5
  · subst h5; simpa [fieldsOf] using h
  by_cases h6 : k = 6
  · subst h6; simpa [fieldsOf] using h
  by_cases h7 : k = 7
  · subst h7; simpa [fieldsOf] using h
  by_cases h9 : k = 9
  · subst h9; simpa [fieldsOf] using h
  by_cases h13 : k = 13
  · subst h13; simpa [fieldsOf] using h
  by_cases h16 : k = 16
  · subst h16; simpa [fieldsOf] using h
  by_cases h17 : k = 17
  · subst h17; simpa [fieldsOf] using h
  by_cases h8 : k = 8
  · subst h8; simpa [fieldsOf] using h
  by_cases h10 : k = 10
  · subst h10; simpa [fieldsOf] using h
  by_cases h11 : k = 11
  · subst h11; simpa [fieldsOf] using h
  by_cases h12 : k = 12
  · subst h12; simpa [fieldsOf] using h
  by_cases h14 : k = 14
  · subst h14; simpa [fieldsOf] using h
  by_cases h15 : k = 15
  · subst h15; simpa [fieldsOf] using h
  simpa [fieldsOf, h1, h2, h3, h4, h5, h6, h7, h9, h13, h16, h17, h8, h10, h11, h12, h14, h15] using h
theorem fieldsOf_small (k : Int) : ∀ c ∈ fieldsOf k, c.toNat < 128 := by
  have : (fieldsOf k).all (fun c => decide (c.toNat < 128)) = true := by
    by_cases h1 : k = 1
    · subst h1; decide
    by_cases h2 : k = 2
    · subst h2; decide
    by_cases h3 : k = 3
    · subst h3; decide
    by_cases h4 : k = 4
    · subst h4; decide
    by_cases h5 : k = 5
    · subst h5; decide
    by_cases h6 : k = 6
    · subst h6; decide
    by_cases h7 : k = 7
    · subst h7; decide
    by_cases h9 : k = 9
    · subst h9; decide
    by_cases h13 : k = 13
    · subst h13; decide
    by_cases h16 : k = 16
    · subst h16; decide
    by_cases h17 : k = 17
    · subst h17; decide
    by_cases h8 : k = 8
    · subst h8; decide
    by_cases h10 : k = 10
    · subst h10; decide
    by_cases h11 : k = 11
    · subst h11; decide
    by_cases h12 : k = 12
    · subst h12; decide
    by_cases h14 : k = 14
    · subst h14; decide
    by_cases h15 : k = 15
    · subst h15; decide
    simp [fieldsOf, h1, h2, h3, h4, h5, h6, h7, h9, h13, h16, h17, h8, h10, h11, h12, h14, h15]
  intro c hc
  simpa using List.all_eq_true.1 this c hc
-- ---------------------------------------------------------------- sets of texts
theorem afind_strs (s : Bs) : ∀ (es : List AEnt) (seen : List Bs) (i : Nat), es.map (·.key) = seen.map .str → (s ∉ seen → afind (.one .str) (.str s) es i = some none) ∧ (s ∈ seen → ∃ j, ∃ e ∈ es, afind (.one .str) (.str s) es i = some (some (j, e.val)))
  | [], seen, i, h => by
    have : seen = [] := by cases seen with
      | nil => rfl
      | cons _ _ => simp at h
    subst this
    exact ⟨fun _ => rfl, fun h => by simp at h⟩
  | e :: es, seen, i, h => by
    obtain ⟨k, seen, rfl⟩ : ∃ k l, seen = k :: l := by cases seen with
      | nil => simp at h
      | cons k l => exact ⟨k, l, rfl⟩
    simp only [List.map_cons, List.cons.injEq] at h
    obtain ⟨hk, ht⟩ := h
    have ih := afind_strs s es seen (i + 1) ht
    simp only [afind, keySame, hk, same1]
    by_cases hs : s = k
    · subst hs
      simp only [beq_self_eq_true]
      exact ⟨fun hn => absurd (List.mem_cons_self ..) hn, fun _ => ⟨i, e, List.mem_cons_self .., rfl⟩⟩
    · have hsb : (s == k) = false := by simpa using hs
      simp only [hsb]
      refine ⟨fun hn => ih.1 (fun hm => hn (List.mem_cons_of_mem _ hm)), fun hm => ?_⟩
      rcases List.mem_cons.1 hm with rfl | hm
      · exact absurd rfl hs
      · obtain ⟨j, e', he', h'⟩ := ih.2 hm
        exact ⟨j, e', List.mem_cons_of_mem _ he', h'⟩
/-- object r is the set of these texts -/
def IsSet (H : AH) (r : Nat) (seen : List Bs) : Prop := ∃ es c, H.get r = some (.map es c) ∧ es.map (·.key) = seen.map .str ∧ ∀ e ∈ es, e.val = .bool true
theorem look_set {H : AH} {r : Nat} {seen : List Bs} (h : IsSet H r seen) (s : Bs) : look (.one .str) (.bool false) (.map r) (.str s) false H = some (.bool (seen.contains s)) := by
  obtain ⟨es, c, h1, h2, h3⟩ := h
  have := afind_strs s es seen 0 h2
  simp only [look, keyIs, if_true, ments, h1, Option.bind_some]
  by_cases hs : s ∈ seen
  · obtain ⟨j, e, he, ha⟩ := this.2 hs
    simp [ha, lookRes, h3 e he, hs]
  · simp [this.1 hs, lookRes, hs]
theorem mput_set {H : AH} {r : Nat} {seen : List Bs} (h : IsSet H r seen) {s : Bs} (hs : s ∉ seen) : ∃ x, mput (.one .str) (.map r) (.str s) (.bool true) H = some (H.put r x) ∧ IsSet (H.put r x) r (seen ++ [s]) := by
  obtain ⟨es, c, h1, h2, h3⟩ := h
  have := (afind_strs s es seen 0 h2).1 hs
  refine ⟨.map (es ++ [⟨.str s, .bool true, c⟩]) (c + 1), by simp [mput, keyIs, h1, this], es ++ [⟨.str s, .bool true, c⟩], c + 1, get_put_self _ _ _, by simp [h2], ?_⟩
  intro e he
  rcases List.mem_append.1 he with he | he
  · exact h3 e he
  · simp at he; subst he; rfl
theorem allNames_cons (s : Bs) (l : List Bs) : True := trivial
/-- what name.All goes through -/
def allGo : List Bs → List Bs → Bool
  | _, [] => true
  | seen, s :: l => rightN s && !seen.contains s && allGo (seen ++ [s]) l
theorem allGo_spec : ∀ (l seen : List Bs), allGo seen l = (l.all rightN && decide l.Nodup && l.all (fun s => !seen.contains s))
  | [], seen => by simp [allGo]
  | s :: l, seen => by
    rw [allGo, allGo_spec l (seen ++ [s])]
    rw [Bool.eq_iff_iff]
    simp only [List.all_cons, Bool.and_eq_true, List.nodup_cons, decide_eq_true_eq, List.all_eq_true, Bool.not_eq_true', List.contains_eq_mem, decide_eq_false_iff_not, List.mem_append, List.mem_singleton, not_or]
    constructor
    · rintro ⟨⟨h1, h2⟩, ⟨h3, h4⟩, h5⟩
      exact ⟨⟨⟨h1, h3⟩, fun hm => (h5 s hm).2 rfl, h4⟩, h2, fun x hx => (h5 x hx).1⟩
    · rintro ⟨⟨⟨h1, h3⟩, h6, h4⟩, h2, h5⟩
      exact ⟨⟨h1, h2⟩, ⟨h3, h4⟩, fun x hx => ⟨h5 x hx, fun e => h6 (e ▸ hx)⟩⟩
theorem allGo_nil (l : List Bs) : allGo [] l = allNames l := by rw [allGo_spec, allNames]; simp

theorem Ext.get_lt {H H' : AH} (h : Ext H H') {o : Nat} {x : AObj} (ho : o < H.next) (hg : H.get o = some x) : H'.get o = some x := by rw [h.get o ho]; exact hg
theorem IsSet.ext {H H' : AH} {r : Nat} {seen : List Bs} (h : IsSet H r seen) (hx : Ext H H') (hr : r < H.next) : IsSet H' r seen := by
  obtain ⟨es, c, h1, h2⟩ := h
  exact ⟨es, c, hx.get_lt hr h1, h2⟩
theorem c_All_loop (ws : List Bs) (hsm : ∀ w ∈ ws, w.length ≤ 1000000000) (hl : ws.length ≤ 1000000000) {g : Grow} {H0 : AH} {K : AV → AH → Prop} (h : ∀ H', Ext H0 H' → K (.bool (allNames ws)) H') :
    ∀ (r : List Bs) (i : Nat) (seen : List Bs) (m : Nat) (H : AH), ws.drop i = r → allGo seen r = allNames ws → H0.next ≤ m → m < H.next → Ext H0 H → IsSet H m seen →
    LoopP (r_name_All_p116 K) [.map m, .sl g 1 (ws.map .str), .int .i64 ws.length, .int .i64 i] H
  | [], i, seen, m, H, hr, hg, hm, hmn, hx, hs => by
    refine .fold ?_
    have hi : ws.length ≤ i := by simpa using hr
    have hlt : ¬ ((i : Int) < (ws.length : Int)) := by omega
    have := h H hx
    rw [← hg] at this
    simpa [r_name_All_p116, hlt, allGo] using this
  | w :: r, i, seen, m, H, hr, hg, hm, hmn, hx, hs => by
    refine .fold ?_
    have hw : ws[i]? = some w := by
      have := congrArg (fun l => l[0]?) hr
      simpa using this
    have hlt : i < ws.length := (List.getElem?_eq_some_iff.1 hw).1
    have hr' : ws.drop (i + 1) = r := by rw [← List.drop_drop, hr]; rfl
    have h1 : ((i : Int) < (ws.length : Int)) := by omega
    have h2 : (0 : Int) ≤ (i : Int) := by omega
    have hww : IntKind.i64.wrap ((i : Int) + 1) = ((i + 1 : Nat) : Int) := by rw [wrap_i64 (by omega) (by omega)]; omega
    have hgi : (ws.map AV.str)[i]? = some (.str w) := by simp [hw]
    have hwl := hsm w (List.mem_of_getElem? hw)
    simp only [r_name_All_p116, abin_i_add, abin_i_sub, abin_i_mul, abin_i_eql, abin_i_neq, abin_i_lss, abin_i_leq, abin_i_gtr, abin_i_geq, abin_s_eql, abin_s_neq, bnd_some, bnd_none, branch_bool, gwant_bool, gwant_nothing, aguard_some, wantE_some, pickV_bool, nilck_ptr, nilck_elem, aoff_ptr, aoff_elem, aun_not, aun_neg, lenStr_str, lenSl_nils, lenSl_sl, lenSl_osl, aextract_tup, ld1uelem, idxStr_str, amin2uint, amax2uint, rangeStr_str, sliceStr_from, sliceStr_to, List.getElem?_cons_zero, List.getElem?_cons_succ, Option.map_some, Option.bind_some, Int.toNat_natCast, Int.toNat_zero, Int.le_refl, Bool.not_true, Bool.not_false, Bool.not_not, Bool.false_eq_true, if_true, if_false, decide_eq_true_eq, beq_self_eq_true, bool_ft, bool_tf, decide_true, decide_false, reduceCtorEq, cmpNil, cmpRes, boxCells, AV.known, AV.cells, Nat.zero_add, and_self, and_true, true_and, ite_self, forall_const, not_true_eq_false, not_false_eq_true, h1, idxA, h2, hgi]
    refine c_name_Right w (by omega) fun H1 hx1 => ?_
    have hs1 := hs.ext hx1 hmn
    simp only [abin_i_add, abin_i_sub, abin_i_mul, abin_i_eql, abin_i_neq, abin_i_lss, abin_i_leq, abin_i_gtr, abin_i_geq, abin_s_eql, abin_s_neq, bnd_some, bnd_none, branch_bool, gwant_bool, gwant_nothing, aguard_some, wantE_some, pickV_bool, nilck_ptr, nilck_elem, aoff_ptr, aoff_elem, aun_not, aun_neg, lenStr_str, lenSl_nils, lenSl_sl, lenSl_osl, aextract_tup, ld1uelem, idxStr_str, amin2uint, amax2uint, rangeStr_str, sliceStr_from, sliceStr_to, List.getElem?_cons_zero, List.getElem?_cons_succ, Option.map_some, Option.bind_some, Int.toNat_natCast, Int.toNat_zero, Int.le_refl, Bool.not_true, Bool.not_false, Bool.not_not, Bool.false_eq_true, if_true, if_false, decide_eq_true_eq, beq_self_eq_true, bool_ft, bool_tf, decide_true, decide_false, reduceCtorEq, cmpNil, cmpRes, boxCells, AV.known, AV.cells, Nat.zero_add, and_self, and_true, true_and, ite_self, forall_const, not_true_eq_false, not_false_eq_true, look_set hs1]
    have e : (w != [] && decide (w.length ≤ 8) && w.all isNm) = rightN w := rfl
    rw [e]
    simp only [allGo] at hg
    cases hrw : rightN w with
    | false =>
      rw [hrw] at hg
      have := h H1 (hx.trans hx1)
      rw [← hg] at this
      simpa using this
    | true =>
      simp only [abin_i_add, abin_i_sub, abin_i_mul, abin_i_eql, abin_i_neq, abin_i_lss, abin_i_leq, abin_i_gtr, abin_i_geq, abin_s_eql, abin_s_neq, bnd_some, bnd_none, branch_bool, gwant_bool, gwant_nothing, aguard_some, wantE_some, pickV_bool, nilck_ptr, nilck_elem, aoff_ptr, aoff_elem, aun_not, aun_neg, lenStr_str, lenSl_nils, lenSl_sl, lenSl_osl, aextract_tup, ld1uelem, idxStr_str, amin2uint, amax2uint, rangeStr_str, sliceStr_from, sliceStr_to, List.getElem?_cons_zero, List.getElem?_cons_succ, Option.map_some, Option.bind_some, Int.toNat_natCast, Int.toNat_zero, Int.le_refl, Bool.not_true, Bool.not_false, Bool.not_not, Bool.false_eq_true, if_true, if_false, decide_eq_true_eq, beq_self_eq_true, bool_ft, bool_tf, decide_true, decide_false, reduceCtorEq, cmpNil, cmpRes, boxCells, AV.known, AV.cells, Nat.zero_add, and_self, and_true, true_and, ite_self, forall_const, not_true_eq_false, not_false_eq_true]
      by_cases hse : seen.contains w = true
      · rw [hrw, hse] at hg
        have := h H1 (hx.trans hx1)
        rw [← hg] at this
        simp only [hse, abin_i_add, abin_i_sub, abin_i_mul, abin_i_eql, abin_i_neq, abin_i_lss, abin_i_leq, abin_i_gtr, abin_i_geq, abin_s_eql, abin_s_neq, bnd_some, bnd_none, branch_bool, gwant_bool, gwant_nothing, aguard_some, wantE_some, pickV_bool, nilck_ptr, nilck_elem, aoff_ptr, aoff_elem, aun_not, aun_neg, lenStr_str, lenSl_nils, lenSl_sl, lenSl_osl, aextract_tup, ld1uelem, idxStr_str, amin2uint, amax2uint, rangeStr_str, sliceStr_from, sliceStr_to, List.getElem?_cons_zero, List.getElem?_cons_succ, Option.map_some, Option.bind_some, Int.toNat_natCast, Int.toNat_zero, Int.le_refl, Bool.not_true, Bool.not_false, Bool.not_not, Bool.false_eq_true, if_true, if_false, decide_eq_true_eq, beq_self_eq_true, bool_ft, bool_tf, decide_true, decide_false, reduceCtorEq, cmpNil, cmpRes, boxCells, AV.known, AV.cells, Nat.zero_add, and_self, and_true, true_and, ite_self, forall_const, not_true_eq_false, not_false_eq_true]
        simpa using this
      · have hse' : seen.contains w = false := by simpa using hse
        obtain ⟨x, hp1, hp2⟩ := mput_set hs1 (s := w) (by simpa using hse')
        simp only [hse', abin_i_add, abin_i_sub, abin_i_mul, abin_i_eql, abin_i_neq, abin_i_lss, abin_i_leq, abin_i_gtr, abin_i_geq, abin_s_eql, abin_s_neq, bnd_some, bnd_none, branch_bool, gwant_bool, gwant_nothing, aguard_some, wantE_some, pickV_bool, nilck_ptr, nilck_elem, aoff_ptr, aoff_elem, aun_not, aun_neg, lenStr_str, lenSl_nils, lenSl_sl, lenSl_osl, aextract_tup, ld1uelem, idxStr_str, amin2uint, amax2uint, rangeStr_str, sliceStr_from, sliceStr_to, List.getElem?_cons_zero, List.getElem?_cons_succ, Option.map_some, Option.bind_some, Int.toNat_natCast, Int.toNat_zero, Int.le_refl, Bool.not_true, Bool.not_false, Bool.not_not, Bool.false_eq_true, if_true, if_false, decide_eq_true_eq, beq_self_eq_true, bool_ft, bool_tf, decide_true, decide_false, reduceCtorEq, cmpNil, cmpRes, boxCells, AV.known, AV.cells, Nat.zero_add, and_self, and_true, true_and, ite_self, forall_const, not_true_eq_false, not_false_eq_true, hp1, hww]
        rw [hrw, hse'] at hg
        simp only [Bool.not_false, Bool.true_and] at hg
        exact c_All_loop ws hsm hl h r (i + 1) (seen ++ [w]) m _ hr' hg hm (by simpa using Nat.lt_of_lt_of_le hmn hx1.next) ((hx.trans hx1).put hm _) hp2
theorem c_name_All (ws : List Bs) (hsm : ∀ w ∈ ws, w.length ≤ 1000000000) (hl : ws.length ≤ 1000000000) {v : AV} (hv : IsSl 1 .str v ws) {H : AH} {K : AV → AH → Prop} (h : ∀ H', Ext H H' → K (.bool (allNames ws)) H') : r_name_All [v] H K := by
  have hset : IsSet (H.add (.map [] 0)) H.next [] := ⟨[], 0, get_add_self _ _, rfl, fun e he => by simp at he⟩
  rcases hv with ⟨rfl, rfl⟩ | ⟨g, rfl⟩
  · simp only [r_name_All, abin_i_add, abin_i_sub, abin_i_mul, abin_i_eql, abin_i_neq, abin_i_lss, abin_i_leq, abin_i_gtr, abin_i_geq, abin_s_eql, abin_s_neq, bnd_some, bnd_none, branch_bool, gwant_bool, gwant_nothing, aguard_some, wantE_some, pickV_bool, nilck_ptr, nilck_elem, aoff_ptr, aoff_elem, aun_not, aun_neg, lenStr_str, lenSl_nils, lenSl_sl, lenSl_osl, aextract_tup, ld1uelem, idxStr_str, amin2uint, amax2uint, rangeStr_str, sliceStr_from, sliceStr_to, List.getElem?_cons_zero, List.getElem?_cons_succ, Option.map_some, Option.bind_some, Int.toNat_natCast, Int.toNat_zero, Int.le_refl, Bool.not_true, Bool.not_false, Bool.not_not, Bool.false_eq_true, if_true, if_false, decide_eq_true_eq, beq_self_eq_true, bool_ft, bool_tf, decide_true, decide_false, reduceCtorEq, cmpNil, cmpRes, boxCells, AV.known, AV.cells, Nat.zero_add, and_self, and_true, true_and, ite_self, forall_const, not_true_eq_false, not_false_eq_true]
    refine .fold ?_
    have := h _ ((Ext.refl H).add (.map [] 0))
    have e : allNames [] = true := rfl
    rw [e] at this
    simpa [r_name_All_p116] using this
  · simp only [r_name_All, abin_i_add, abin_i_sub, abin_i_mul, abin_i_eql, abin_i_neq, abin_i_lss, abin_i_leq, abin_i_gtr, abin_i_geq, abin_s_eql, abin_s_neq, bnd_some, bnd_none, branch_bool, gwant_bool, gwant_nothing, aguard_some, wantE_some, pickV_bool, nilck_ptr, nilck_elem, aoff_ptr, aoff_elem, aun_not, aun_neg, lenStr_str, lenSl_nils, lenSl_sl, lenSl_osl, aextract_tup, ld1uelem, idxStr_str, amin2uint, amax2uint, rangeStr_str, sliceStr_from, sliceStr_to, List.getElem?_cons_zero, List.getElem?_cons_succ, Option.map_some, Option.bind_some, Int.toNat_natCast, Int.toNat_zero, Int.le_refl, Bool.not_true, Bool.not_false, Bool.not_not, Bool.false_eq_true, if_true, if_false, decide_eq_true_eq, beq_self_eq_true, bool_ft, bool_tf, decide_true, decide_false, reduceCtorEq, cmpNil, cmpRes, boxCells, AV.known, AV.cells, Nat.zero_add, and_self, and_true, true_and, ite_self, forall_const, not_true_eq_false, not_false_eq_true, List.length_map]
    exact c_All_loop ws hsm hl h ws 0 [] H.next _ rfl (allGo_nil ws) (Nat.le_refl _) (by simp) ((Ext.refl H).add _) hset
end Go.Va
