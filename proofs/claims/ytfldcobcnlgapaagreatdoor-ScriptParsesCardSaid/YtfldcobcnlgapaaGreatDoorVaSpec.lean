/-
  For contracts: what operations yield at values of known shape; memory that has only grown.
-/
import Derived.Test.YtfldcobcnlgapaaGreatDoorVaFn
set_option linter.unusedVariables false
set_option linter.unusedSimpArgs false
set_option linter.unnecessarySimpa false
namespace Go.Va

@[simp] theorem abin_i_add (P : Program) (t : TypeId) (k : IntKind) (a b : Int) : abin P .add t (.int k a) (.int k b) = some (.int k (k.wrap (a + b))) := by simp [abin, intOp]
@[simp] theorem abin_i_sub (P : Program) (t : TypeId) (k : IntKind) (a b : Int) : abin P .sub t (.int k a) (.int k b) = some (.int k (k.wrap (a - b))) := by simp [abin, intOp]
@[simp] theorem abin_i_mul (P : Program) (t : TypeId) (k : IntKind) (a b : Int) : abin P .mul t (.int k a) (.int k b) = some (.int k (k.wrap (a * b))) := by simp [abin, intOp]
@[simp] theorem abin_i_eql (P : Program) (t : TypeId) (k : IntKind) (a b : Int) : abin P .eql t (.int k a) (.int k b) = some (.bool (a == b)) := by simp [abin, intOp]
@[simp] theorem abin_i_neq (P : Program) (t : TypeId) (k : IntKind) (a b : Int) : abin P .neq t (.int k a) (.int k b) = some (.bool (a != b)) := by simp [abin, intOp]
@[simp] theorem abin_i_lss (P : Program) (t : TypeId) (k : IntKind) (a b : Int) : abin P .lss t (.int k a) (.int k b) = some (.bool (decide (a < b))) := by simp [abin, intOp]
@[simp] theorem abin_i_leq (P : Program) (t : TypeId) (k : IntKind) (a b : Int) : abin P .leq t (.int k a) (.int k b) = some (.bool (decide (a ≤ b))) := by simp [abin, intOp]
@[simp] theorem abin_i_gtr (P : Program) (t : TypeId) (k : IntKind) (a b : Int) : abin P .gtr t (.int k a) (.int k b) = some (.bool (decide (a > b))) := by simp [abin, intOp]
@[simp] theorem abin_i_geq (P : Program) (t : TypeId) (k : IntKind) (a b : Int) : abin P .geq t (.int k a) (.int k b) = some (.bool (decide (a ≥ b))) := by simp [abin, intOp]
@[simp] theorem abin_i_quo (P : Program) (t : TypeId) (k : IntKind) (a b : Int) : abin P .quo t (.int k a) (.int k b) = if b = 0 then none else some (.int k (k.wrap (a.tdiv b))) := by simp [abin, intOp]
@[simp] theorem abin_i_rem (P : Program) (t : TypeId) (k : IntKind) (a b : Int) : abin P .rem t (.int k a) (.int k b) = if b = 0 then none else some (.int k (a.tmod b)) := by simp [abin, intOp]
@[simp] theorem abin_s_eql (P : Program) (t : TypeId) (a b : List UInt8) : abin P .eql t (.str a) (.str b) = some (.bool (a == b)) := by simp [abin, strOp]
@[simp] theorem abin_s_neq (P : Program) (t : TypeId) (a b : List UInt8) : abin P .neq t (.str a) (.str b) = some (.bool !(a == b)) := by simp [abin, strOp]
@[simp] theorem abin_s_add (P : Program) (t : TypeId) (a b : List UInt8) : abin P .add t (.str a) (.str b) = if a.length + b.length ≤ 9223372036854775807 then some (.str (a ++ b)) else none := by simp [abin, strOp]

@[simp] theorem branch_bool (b : Bool) (p q : Prop) : branch (.bool b) p q = if b then p else q := by cases b <;> rfl
@[simp] theorem gwant_bool (w b : Bool) : gwant w (.bool b) = some (b == w) := rfl
@[simp] theorem gwant_nothing (w : Bool) : gwant w nothing = some false := rfl
@[simp] theorem aguard_some (b : Bool) (e : (AV → AH → Prop) → Prop) (H : AH) (k : AV → AH → Prop) : aguard (some b) e H k = if b then e k else k nothing H := by cases b <;> rfl
@[simp] theorem wantE_some (b : Bool) (p : Prop) : wantE (some b) p = (b = true → p) := by cases b <;> simp [wantE]
@[simp] theorem pickV_bool (b : Bool) (x y : AV) : pickV (.bool b) x y = some (if b then x else y) := rfl
@[simp] theorem nilck_ptr (o f : Nat) : nilck (.ptr o f) = some (.ptr o f) := rfl
@[simp] theorem nilck_elem (cs : List AV) (f : Nat) : nilck (.elem cs f) = some (.elem cs f) := rfl
@[simp] theorem aoff_ptr (n o f : Nat) : aoff n (.ptr o f) = some (.ptr o (f + n)) := rfl
@[simp] theorem aoff_elem (n : Nat) (cs : List AV) (f : Nat) : aoff n (.elem cs f) = some (.elem cs (f + n)) := rfl
@[simp] theorem aun_not (b : Bool) : aun .not (.bool b) = some (.bool !b) := rfl
@[simp] theorem aun_neg (k : IntKind) (n : Int) : aun .neg (.int k n) = some (.int k (k.wrap (0 - n))) := rfl
@[simp] theorem lenStr_str (s : List UInt8) : lenStr (.str s) = some (.int .i64 s.length) := rfl
@[simp] theorem lenSl_nils : lenSl .nils = some (.int .i64 0) := rfl
@[simp] theorem lenSl_sl (g : Grow) (sz : Nat) (es : List AV) : lenSl (.sl g sz es) = some (.int .i64 es.length) := rfl
@[simp] theorem lenSl_osl (o f n c : Nat) : lenSl (.osl o f n c) = some (.int .i64 n) := rfl
@[simp] theorem aextract_tup (vs : List AV) (i : Nat) : aextract (.tup vs) i = vs[i]? := rfl
@[simp] theorem ld1uelem (cs : List AV) (i : Nat) (H : AH) : ld1 (.elem cs i) H = cs[i]? := rfl
theorem ld1uptr {H : AH} {o : Nat} {cs : List AV} (h : H.get o = some (.cells cs)) (i : Nat) : ld1 (.ptr o i) H = cs[i]? := by simp [ld1, h]
theorem ldN_ptr {H : AH} {o : Nat} {cs : List AV} (h : H.get o = some (.cells cs)) (n i : Nat) (hle : i + n ≤ cs.length) : ldN n (.ptr o i) H = some (.agg ((cs.drop i).take n)) := by simp [ldN, h, hle]
@[simp] theorem idxStr_str (s : List UInt8) (k : IntKind) (n : Int) : idxStr (.str s) (.int k n) = if 0 ≤ n then (s[n.toNat]?).map fun b => .int .u8 b.toNat else none := rfl
@[simp] theorem amin2uint (k k' : IntKind) (a b : Int) : amin2 (.int k a) (.int k' b) = some (.int k (if b < a then b else a)) := rfl
@[simp] theorem amax2uint (k k' : IntKind) (a b : Int) : amax2 (.int k a) (.int k' b) = some (.int k (if b > a then b else a)) := rfl

theorem ast1uptr {H : AH} {o : Nat} {cs : List AV} (h : H.get o = some (.cells cs)) {i : Nat} {v : AV} (hv : v.one = true) (hi : i < cs.length) : ast 1 (.ptr o i) v H = some (H.put o (.cells (cs.set i v))) := by
  have hc : v.cells = [v] := by cases v <;> first | rfl | (simp [AV.one] at hv)
  have hk : v.known = true := by cases v <;> first | rfl | (simp [AV.one] at hv)
  simp [ast, h, hc, hk, hv, sets]
  omega

@[simp] theorem get_add_self (H : AH) (x : AObj) : (H.add x).get H.next = some x := by simp [AH.add]
theorem get_add_ne (H : AH) (x : AObj) {o : Nat} (h : o ≠ H.next) : (H.add x).get o = H.get o := by simp [AH.add, h]
@[simp] theorem next_add (H : AH) (x : AObj) : (H.add x).next = H.next + 1 := rfl
@[simp] theorem next_put (H : AH) (o : Nat) (x : AObj) : (H.put o x).next = H.next := rfl
@[simp] theorem tok_add (H : AH) (x : AObj) : (H.add x).tok = H.tok := rfl
@[simp] theorem tok_put (H : AH) (o : Nat) (x : AObj) : (H.put o x).tok = H.tok := rfl
@[simp] theorem get_put_self (H : AH) (o : Nat) (x : AObj) : (H.put o x).get o = some x := by simp [AH.put]
theorem get_put_ne (H : AH) {o o' : Nat} (x : AObj) (h : o' ≠ o) : (H.put o x).get o' = H.get o' := by simp [AH.put, h]

/-- H' is H, and more: nothing that was there is touched. -/
structure Ext (H H' : AH) : Prop where
  next : H.next ≤ H'.next
  get : ∀ o, o < H.next → H'.get o = H.get o
  tok : ∀ c, c < H.next → H'.tok c = H.tok c
theorem Ext.refl (H : AH) : Ext H H := ⟨Nat.le_refl _, fun _ _ => rfl, fun _ _ => rfl⟩
theorem Ext.trans {H H' H'' : AH} (h : Ext H H') (h' : Ext H' H'') : Ext H H'' :=
  ⟨Nat.le_trans h.next h'.next, fun o ho => (h'.get o (Nat.lt_of_lt_of_le ho h.next)).trans (h.get o ho), fun c hc => (h'.tok c (Nat.lt_of_lt_of_le hc h.next)).trans (h.tok c hc)⟩
theorem Ext.add {H H' : AH} (h : Ext H H') (x : AObj) : Ext H (H'.add x) :=
  ⟨Nat.le_succ_of_le h.next, fun o ho => by rw [get_add_ne _ _ (by have := h.next; omega)]; exact h.get o ho, fun c hc => h.tok c hc⟩
theorem Ext.put {H H' : AH} (h : Ext H H') {o : Nat} (ho : H.next ≤ o) (x : AObj) : Ext H (H'.put o x) :=
  ⟨h.next, fun o' ho' => by rw [get_put_ne _ _ (by omega)]; exact h.get o' ho', fun c hc => h.tok c hc⟩
end Go.Va
