/-
  Contracts of the library's functions: parts of strings, sets of signs, numbers of texts.
-/
import Derived.Test.YtfldcobcnlgapaaGreatDoorCtA
import Derived.Laws.RangeString
set_option linter.unusedVariables false
set_option linter.unusedSimpArgs false
set_option maxRecDepth 100000
namespace Go.Va

-- ---------------------------------------------------------------- going through a string of small signs
theorem nextStr_at {H : AH} {o : Nat} {s : Bs} {pos : Nat} (ho : H.get o = some (.sIter s pos)) {c : UInt8} (hc : s[pos]? = some c) (ha : c.toNat < 128) :
    nextStr (.iter o) H = some (.tup [.bool true, .int .i64 pos, .int .i32 c.toNat], H.put o (.sIter s (pos + 1))) := by
  have hlt : pos < s.length := (List.getElem?_eq_some_iff.1 hc).1
  have hb : pos < (⟨s.toArray⟩ : ByteArray).size := by simpa [ByteArray.size] using hlt
  have he : (⟨s.toArray⟩ : ByteArray)[pos] = c := by
    have : s[pos] = c := (List.getElem?_eq_some_iff.1 hc).2
    rw [← this]; rfl
  have hd := decode_ascii (⟨s.toArray⟩ : ByteArray) pos hb (by rw [he]; exact ha)
  rw [he] at hd
  simp [nextStr, ho, hlt, hd]
theorem nextStr_end {H : AH} {o : Nat} {s : Bs} {pos : Nat} (ho : H.get o = some (.sIter s pos)) (hc : s.length ≤ pos) : nextStr (.iter o) H = some (.tup [.bool false], H) := by
  simp only [nextStr, ho]
  rw [if_neg (by omega)]
@[simp] theorem rangeStr_str (s : Bs) (H : AH) : rangeStr (.str s) H = some (.iter H.next, H.add (.sIter s 0)) := rfl
theorem add_put (H : AH) (x y : AObj) : (H.add x).put H.next y = H.add y := by
  simp only [AH.put, AH.add, AH.mk.injEq, and_true]
  funext o
  split <;> simp_all

theorem c_holds_loop (s : Bs) (hs : ∀ c ∈ s, c.toNat < 128) (f : Int) {K : AV → AH → Prop} : ∀ (r : Bs) (pos : Nat) (H H0 : AH) (o : Nat), s.drop pos = r → H0.next ≤ o → Ext H0 H → H.get o = some (.sIter s pos) →
    (∀ H', Ext H0 H' → K (.bool (r.any fun c => (c.toNat : Int) == f)) H') → LoopP (r_message_holds_p52 K) [.int .i32 f, .iter o] H
  | [], pos, H, H0, o, hr, hn, he, ho, h => by
    refine .fold ?_
    have hl : s.length ≤ pos := by simpa using hr
    simp only [r_message_holds_p52, nextStr_end ho hl, bnd_some, aextract_tup, List.getElem?_cons_zero, branch_bool]
    simpa using h H he
  | c :: r, pos, H, H0, o, hr, hn, he, ho, h => by
    refine .fold ?_
    have hc : s[pos]? = some c := by
      have := congrArg (fun l => l[0]?) hr
      simpa using this
    have hr' : s.drop (pos + 1) = r := by rw [← List.drop_drop, hr]; rfl
    have hcs : c.toNat < 128 := hs c (List.mem_of_getElem? hc)
    simp only [r_message_holds_p52, nextStr_at ho hc hcs, bnd_some, aextract_tup, List.getElem?_cons_zero, List.getElem?_cons_succ, branch_bool, if_true, abin_i_eql]
    have he' := he.put (o := o) hn (.sIter s (pos + 1))
    split
    · rename_i hq
      have := h _ he'
      simpa [hq] using this
    · rename_i hq
      refine c_holds_loop s hs f r (pos + 1) _ H0 o hr' hn he' (get_put_self _ _ _) fun H' hx => ?_
      have := h _ hx
      simpa [hq] using this
theorem c_message_holds (s : Bs) (hs : ∀ c ∈ s, c.toNat < 128) (f : Int) {H : AH} {K : AV → AH → Prop} (h : ∀ H', Ext H H' → K (.bool (s.any fun c => (c.toNat : Int) == f)) H') : r_message_holds [.str s, .int .i32 f] H K := by
  simp only [r_message_holds, rangeStr_str, bnd_some]
  exact c_holds_loop s hs f s 0 _ H H.next rfl (Nat.le_refl _) ((Ext.refl H).add _) (get_add_self _ _) h

-- ---------------------------------------------------------------- a sign in a text
theorem u8uwrap (c : UInt8) : IntKind.u8.wrap (c.toNat : Int) = c.toNat := by
  have := c.toNat_lt
  simp [IntKind.wrap, IntKind.bits, IntKind.signed]
  omega
theorem c_strings_ContainsRune (s : Bs) (c : UInt8) (hc : c.toNat < 128) {H : AH} {K : AV → AH → Prop} (h : K (.bool (decide (0 ≤ Lib.indexByte s c))) H) : r_strings_ContainsRune [.str s, .int .i32 c.toNat] H K := by
  have h1 : ((c.toNat : Int) < 128) := by omega
  simpa [r_strings_ContainsRune, r_strings_IndexRune, r_strings_IndexByte, r_i_stringslite_IndexByte, r_i_bytealg_IndexByteString, nat_indexByte, h1, convR, u8uwrap] using h

-- ---------------------------------------------------------------- cutting by a set of signs
/-- cells that tell of each sign whether it is in a set -/
def SetCells (set : Bs) (cs : List AV) : Prop := cs.length = 256 ∧ ∀ c : UInt8, cs[c.toNat]? = some (.bool (set.contains c))
theorem c_contains {set : Bs} {cs : List AV} (hs : SetCells set cs) (c : UInt8) {H : AH} {o : Nat} (ho : H.get o = some (.cells cs)) {K : AV → AH → Prop} (h : K (.bool (set.contains c)) H) :
    r_strings_asciiSet_contains [.ptr o 0, .int .u8 c.toNat] H K := by
  have h1 := c.toNat_lt
  have h2 := hs.2 c
  have h3 : ((c.toNat : Int) < 256) := by omega
  simpa [r_strings_asciiSet_contains, idxP, h3, ld1uptr ho, h2] using h
def trimL (set : Bs) (s : Bs) : Bs := s.dropWhile set.contains
def trimR (set : Bs) (s : Bs) : Bs := (s.reverse.dropWhile set.contains).reverse
@[simp] theorem sliceStr_from (s : Bs) (k : IntKind) (n : Int) : sliceStr (.str s) (some (.int k n)) none none = if 0 ≤ n ∧ n ≤ s.length then some (.str (s.drop n.toNat)) else none := by
  simp only [sliceStr, abound, Option.bind_some]
  split <;> simp
@[simp] theorem sliceStr_to (s : Bs) (k : IntKind) (n : Int) : sliceStr (.str s) none (some (.int k n)) none = if 0 ≤ n ∧ n ≤ s.length then some (.str (s.take n.toNat)) else none := by
  simp only [sliceStr, abound]
  split <;> simp
theorem c_trimLeft {set : Bs} {cs : List AV} (hs : SetCells set cs) {H : AH} {o : Nat} (ho : H.get o = some (.cells cs)) {K : AV → AH → Prop} : ∀ (s : Bs), K (.str (trimL set s)) H → LoopP (r_strings_trimLeftASCII_p24 K) [.str s, .ptr o 0] H
  | [], h => by
    refine .fold ?_
    simpa [r_strings_trimLeftASCII_p24, r_strings_trimLeftASCII_p7, trimL] using h
  | c :: s, h => by
    refine .fold ?_
    have hpos : (0 : Int) < (s.length : Int) + 1 := by omega
    simp only [r_strings_trimLeftASCII_p24, lenStr_str, bnd_some, abin_i_gtr, branch_bool, List.length_cons, decide_eq_true_eq, idxStr_str]
    rw [if_pos (by omega)]
    simp only [Int.toNat_zero, List.getElem?_cons_zero, Int.le_refl, if_true, Option.map_some, bnd_some]
    refine c_contains hs c ho ?_
    simp only [aun_not, bnd_some, branch_bool, sliceStr_from, List.length_cons]
    by_cases hc : set.contains c = true
    · simp only [hc, Bool.not_true, Bool.false_eq_true, if_false]
      rw [if_pos (by omega)]
      simp only [bnd_some, Int.toNat_one, List.drop_succ_cons, List.drop_zero]
      refine c_trimLeft hs ho s ?_
      have e : trimL set (c :: s) = trimL set s := by simp only [trimL, List.dropWhile_cons, hc, if_true]
      rw [e] at h; exact h
    · have e : trimL set (c :: s) = c :: s := by simp only [trimL, List.dropWhile_cons, hc, Bool.false_eq_true, if_false]
      simp only [hc, Bool.not_false, if_true, r_strings_trimLeftASCII_p7]
      rw [e] at h; exact h
theorem c_trimRight {set : Bs} {cs : List AV} (hs : SetCells set cs) {H : AH} {o : Nat} (ho : H.get o = some (.cells cs)) {K : AV → AH → Prop} : ∀ (n : Nat) (s : Bs), s.length = n → n ≤ 9223372036854775807 → K (.str (trimR set s)) H → LoopP (r_strings_trimRightASCII_p24 K) [.str s, .ptr o 0] H
  | 0, s, hn, hb, h => by
    have : s = [] := List.eq_nil_of_length_eq_zero hn
    subst this
    refine .fold ?_
    simpa [r_strings_trimRightASCII_p24, r_strings_trimRightASCII_p7, trimR] using h
  | n + 1, s, hn, hb, h => by
    obtain ⟨t, c, rfl⟩ : ∃ t c, s = t ++ [c] := ⟨s.dropLast, s.getLast (by intro e; simp [e] at hn), (List.dropLast_concat_getLast _).symm⟩
    have hl : t.length = n := by simpa using hn
    refine .fold ?_
    have hw : IntKind.i64.wrap (((t.length + 1 : Nat) : Int) - 1) = t.length := by rw [wrap_i64 (by omega) (by omega)]; omega
    have hg : (t ++ [c])[t.length]? = some c := by simp
    simp only [r_strings_trimRightASCII_p24, lenStr_str, bnd_some, abin_i_gtr, branch_bool, List.length_append, List.length_cons, List.length_nil, Nat.zero_add, decide_eq_true_eq, idxStr_str, abin_i_sub, hw]
    rw [if_pos (by omega), if_pos (by omega)]
    simp only [Int.toNat_natCast, hg, Option.map_some, bnd_some]
    refine c_contains hs c ho ?_
    simp only [aun_not, bnd_some, branch_bool, sliceStr_to, List.length_append, List.length_cons, List.length_nil, Nat.zero_add]
    by_cases hc : set.contains c = true
    · simp only [hc, Bool.not_true, Bool.false_eq_true, if_false]
      rw [if_pos (by omega)]
      simp only [bnd_some, Int.toNat_natCast, List.take_left']
      refine c_trimRight hs ho n t hl (by omega) ?_
      have e : trimR set (t ++ [c]) = trimR set t := by simp only [trimR, List.reverse_append, List.reverse_cons, List.reverse_nil, List.nil_append, List.singleton_append, List.dropWhile_cons, hc, if_true]
      rw [e] at h; exact h
    · have e : trimR set (t ++ [c]) = t ++ [c] := by
        simp only [trimR, List.reverse_append, List.reverse_cons, List.reverse_nil, List.nil_append, List.singleton_append, List.dropWhile_cons, hc, Bool.false_eq_true, if_false, List.reverse_reverse]
      simp only [hc, Bool.not_false, if_true, r_strings_trimRightASCII_p7]
      rw [e] at h; exact h

theorem ldN_all {H : AH} {o : Nat} {cs : List AV} (h : H.get o = some (.cells cs)) : ldN cs.length (.ptr o 0) H = some (.agg cs) := by rw [ldN_ptr h _ _ (by omega)]; simp
theorem sets_all : ∀ (xs pre ys : List AV), xs.length = ys.length → sets (pre ++ ys) pre.length xs = pre ++ xs
  | [], pre, ys, h => by
    have : ys = [] := List.eq_nil_of_length_eq_zero (by simpa using h.symm)
    subst this; rfl
  | x :: xs, pre, y :: ys, h => by
    simp only [sets]
    have e : (pre ++ y :: ys).set pre.length x = (pre ++ [x]) ++ ys := by simp
    rw [e]
    have := sets_all xs (pre ++ [x]) ys (by simpa using h)
    simp only [List.length_append, List.length_cons, List.length_nil, Nat.zero_add] at this
    rw [this]; simp
theorem ast_all {H : AH} {o : Nat} {cs ys : List AV} (h : H.get o = some (.cells ys)) (hl : cs.length = ys.length) (h1 : cs.all AV.one = true) : ast cs.length (.ptr o 0) (.agg cs) H = some (H.put o (.cells cs)) := by
  have := sets_all cs [] ys hl
  simp only [List.nil_append, List.length_nil] at this
  have h1' := h1
  simp only [List.all_eq_true] at h1'
  simp only [ast, h, AV.known, AV.cells, this, h1, true_and, Nat.zero_add, hl, Nat.le_refl, and_self, if_true]
theorem setCells_one {set : Bs} {cs : List AV} (hs : SetCells set cs) : cs.all AV.one = true := by
  rw [List.all_eq_true]
  intro x hx
  obtain ⟨i, hi⟩ := List.getElem?_of_mem hx
  have hlt : i < 256 := by have := (List.getElem?_eq_some_iff.1 hi).1; rw [hs.1] at this; exact this
  have := hs.2 (UInt8.ofNat i)
  have e : (UInt8.ofNat i).toNat = i := by simp; omega
  rw [e, hi] at this
  cases this; rfl
theorem c_makeSet_loop (s : Bs) (hs : ∀ c ∈ s, c.toNat < 128) {K : AV → AH → Prop} (hlen : s.length ≤ 1000) : ∀ (r : Bs) (pos : Nat) (H H0 : AH) (o : Nat) (cs : List AV), s.drop pos = r → H0.next ≤ o → Ext H0 H → H.get o = some (.cells cs) → SetCells (s.take pos) cs →
    (∀ cs' H', SetCells s cs' → Ext H0 H' → K (.tup [.agg cs', .bool true]) H') → LoopP (r_strings_makeASCIISet_p52 K) [.str s, .ptr o 0, .int .i64 pos] H
  | [], pos, H, H0, o, cs, hr, hn, he, ho, hset, h => by
    refine .fold ?_
    have hl : s.length ≤ pos := by simpa using hr
    have ht : s.take pos = s := List.take_of_length_le hl
    rw [ht] at hset
    simp only [r_strings_makeASCIISet_p52, lenStr_str, bnd_some, abin_i_lss, branch_bool, decide_eq_true_eq]
    rw [if_neg (by omega)]
    have hl256 := hset.1
    have e1 : ldN 256 (.ptr o 0) H = some (.agg cs) := by rw [← hl256]; exact ldN_all ho
    have e2 : ast 256 (.ptr o 0) (.agg cs) H = some (H.put o (.cells cs)) := by rw [← hl256]; exact ast_all ho rfl (setCells_one hset)
    have e3 : ldN 256 (.ptr o 0) (H.put o (.cells cs)) = some (.agg cs) := by rw [← hl256]; exact ldN_all (get_put_self _ _ _)
    simp only [e1, e2, e3, bnd_some]
    exact h cs _ hset (he.put hn _)
  | c :: r, pos, H, H0, o, cs, hr, hn, he, ho, hset, h => by
    refine .fold ?_
    have hc : s[pos]? = some c := by
      have := congrArg (fun l => l[0]?) hr
      simpa using this
    have hlt : pos < s.length := (List.getElem?_eq_some_iff.1 hc).1
    have hr' : s.drop (pos + 1) = r := by rw [← List.drop_drop, hr]; rfl
    have hcs : c.toNat < 128 := hs c (List.mem_of_getElem? hc)
    have hc0 : (0 : Int) ≤ (c.toNat : Int) := by omega
    have hcn : ¬ ((c.toNat : Int) ≥ 128) := by omega
    have hc2 : ((c.toNat : Int) < (256 : Nat)) := by omega
    have hp0 : (0 : Int) ≤ (pos : Int) := by omega
    have hpl : (pos : Int) < (s.length : Int) := by omega
    simp only [r_strings_makeASCIISet_p52, lenStr_str, bnd_some, abin_i_lss, branch_bool, decide_eq_true_eq, idxStr_str, Int.toNat_natCast, hc, Option.map_some, abin_i_geq, idxP, hcn, if_false, hc0, hc2, and_self, if_true, Nat.mul_one, Nat.zero_add, abin_i_add, hp0, hpl]
    have hw : IntKind.i64.wrap ((pos : Int) + 1) = ((pos + 1 : Nat) : Int) := by rw [wrap_i64 (by omega) (by omega)]; omega
    simp only [bnd_some, ast1uptr ho (v := .bool true) rfl (show c.toNat < cs.length by rw [hset.1]; omega), hw]
    refine c_makeSet_loop s hs hlen r (pos + 1) _ H0 o (cs.set c.toNat (.bool true)) hr' hn (he.put hn _) (get_put_self _ _ _) ⟨by simp [hset.1], fun d => ?_⟩ h
    have ht : s.take (pos + 1) = s.take pos ++ [c] := by
      rw [List.take_succ_eq_append_getElem hlt]; congr 2; exact (List.getElem?_eq_some_iff.1 hc).2
    rw [List.getElem?_set, ht]
    by_cases hd : c = d
    · subst hd
      rw [if_pos rfl, if_pos (by rw [hset.1]; omega)]; simp
    · have : c.toNat ≠ d.toNat := fun e => hd (UInt8.toNat_inj.1 e)
      rw [if_neg this, hset.2 d]
      have hd' : d ≠ c := Ne.symm hd
      simp [hd']
theorem c_makeSet (s : Bs) (hs : ∀ c ∈ s, c.toNat < 128) (hlen : s.length ≤ 1000) {H : AH} {K : AV → AH → Prop} (h : ∀ cs' H', SetCells s cs' → Ext H H' → K (.tup [.agg cs', .bool true]) H') : r_strings_makeASCIISet [.str s] H K := by
  simp only [r_strings_makeASCIISet]
  refine c_makeSet_loop s hs hlen s 0 _ H H.next _ rfl (Nat.le_refl _) ((Ext.refl H).add _) (get_add_self _ _) ⟨List.length_replicate .., fun c => ?_⟩ h
  have := c.toNat_lt
  rw [List.getElem?_replicate, if_pos (by omega)]; simp
theorem c_strings_Trim (s set : Bs) (hset : ∀ c ∈ set, c.toNat < 128) (h2 : 2 ≤ set.length) (hlen : set.length ≤ 1000) (hs : s.length ≤ 9223372036854775807) {H : AH} {K : AV → AH → Prop}
    (h : ∀ H', Ext H H' → K (.str (trimL set (trimR set s))) H') : r_strings_Trim [.str s, .str set] H K := by
  have hne : set ≠ [] := by intro e; simp [e] at h2
  have hn1 : ¬ ((set.length : Int) = 1) := by omega
  by_cases h0 : s = []
  · subst h0
    have := h H (Ext.refl H)
    simpa [r_strings_Trim, trimL, trimR] using this
  · have e0 : (s == []) = false := by simpa using h0
    have e1 : (set == []) = false := by simpa using hne
    have e2 : ((set.length : Int) == 1) = false := by simpa using hn1
    simp only [r_strings_Trim, abin_s_eql, bnd_some, e0, gwant_bool, aguard_some, beq_self_eq_true, if_true, e1, pickV_bool, Bool.false_eq_true, if_false, branch_bool, lenStr_str, abin_i_eql, e2]
    refine c_makeSet set hset hlen fun cs H1 hcs hx => ?_
    simp only [aextract_tup, List.getElem?_cons_zero, List.getElem?_cons_succ, bnd_some, branch_bool, if_true]
    have hl256 := hcs.1
    have e3 : ast 256 (.ptr H1.next 0) (.agg cs) (H1.add (.cells (List.replicate 256 (.bool false)))) = some (H1.add (.cells cs)) := by
      rw [← hl256, ast_all (get_add_self _ _) (by simp) (setCells_one hcs), hl256, add_put]
    simp only [e3, bnd_some, r_strings_trimRightASCII, r_strings_trimLeftASCII]
    have hx2 := hx.add (.cells cs)
    exact c_trimRight hcs (get_add_self _ _) _ s rfl hs (c_trimLeft hcs (get_add_self _ _) _ (h _ hx2))
end Go.Va
