/-
  What operations yield that touch no memory, over the plain view: numbers, strings, comparisons, parts of structs.
-/
import Derived.Test.YtfldcobcnlgapaaGreatDoorVaHeap
import Derived.Laws.StructEq
import Derived.Laws.Strings
import Derived.Laws.Slices
import Derived.Laws.Build
import Derived.Laws.Small
set_option linter.unusedVariables false
set_option linter.unusedSimpArgs false
set_option linter.unnecessarySimpa false
namespace Go.Va

def bnd {α : Type} (o : Option α) (K : α → Prop) : Prop := match o with
  | some v => K v
  | none => False
theorem bnd_ex {α : Type} {o : Option α} {K : α → Prop} (h : bnd o K) : ∃ v, o = some v ∧ K v := by
  cases o with
  | none => exact h.elim
  | some v => exact ⟨v, rfl, h⟩
@[simp] theorem bnd_some {α : Type} (v : α) (K : α → Prop) : bnd (some v) K = K v := by simp [bnd]
@[simp] theorem bnd_none {α : Type} (K : α → Prop) : bnd none K = False := by simp [bnd]
theorem bnd_mono {α : Type} {o : Option α} {K K' : α → Prop} (h : bnd o K) (hk : ∀ v, K v → K' v) : bnd o K' := by
  cases o with
  | none => exact h
  | some v => exact hk v h

def aconst1 : Value → AV
  | .bool b => .bool b
  | .int k n => .int k n
  | .float k n => .float k n
  | .complex k a b => .cplx k a b
  | .string s => .str s.data.toList
  | .pointer none => .nilp
  | .slice none 0 0 => .nils
  | .map none => .nilm
  | .nilFunc => .nilf
  | .nilIface => .nili
  | _ => .undef
def aconst : Value → AV
  | .agg cs => .agg (cs.toList.map aconst1)
  | v => aconst1 v

theorem VRel.aconst1 (G : Gh) (v : Value) : VRel G (aconst1 v) v := by
  unfold Va.aconst1
  split
  · exact .bool _
  · exact .int _ _
  · exact .float _ _
  · exact .cplx _ _ _
  · exact .str _
  · exact .nilp
  · exact .nils
  · exact .nilm
  · exact .nilf
  · exact .nili
  · exact .undef _
theorem VRel.aconst (G : Gh) (v : Value) : VRel G (aconst v) v := by
  unfold Va.aconst
  split
  · rename_i cs
    refine .agg (by simp) fun i a v ha hv => ?_
    simp only [List.getElem?_map, Option.map_eq_some_iff] at ha
    obtain ⟨u, hu, rfl⟩ := ha
    simp only [Array.getElem?_toList] at hu
    rw [hv] at hu; cases hu
    exact .aconst1 _ _
  · exact .aconst1 _ _

/-- A value that one cell can hold. -/
def AV.one : AV → Bool
  | .undef | .agg _ | .tup _ => false
  | _ => true
theorem VRel.oneCell {G : Gh} {x : AV} {v : Value} (h : VRel G x v) (h1 : x.one = true) : v.oneCell' = true := by
  cases h <;> first | rfl | cases h1

/-- The cells of a value, one by one. -/
structure CRel (G : Gh) (as : List AV) (vs : List Value) : Prop where
  len : as.length = vs.length
  at_ : ∀ (i : Nat) (a : AV) (v : Value), as[i]? = some a → vs[i]? = some v → VRel G a v
def AV.known : AV → Bool
  | .undef => false
  | _ => true
theorem VRel.cellsRel {G : Gh} {x : AV} {v : Value} (h : VRel G x v) (hk : x.known = true) : CRel G x.cells v.cells.toList := by
  cases h with
  | undef v => cases hk
  | agg hs h => exact ⟨by simp [AV.cells, Value.cells, hs], fun i a v ha hv => h i a v ha (by simpa [Value.cells] using hv)⟩
  | _ =>
    refine ⟨by simp [AV.cells, Value.cells], fun i a v ha hv => ?_⟩
    simp only [AV.cells, Value.cells] at ha hv
    rcases i with _ | i
    · simp at ha hv; subst ha; subst hv
      first | (constructor <;> assumption) | constructor
    · simp at ha

def pickV (c x y : AV) : Option AV :=
  match c with
  | .bool b => some (if b then x else y)
  | _ => none

def nilck : AV → Option AV
  | .ptr o f => some (.ptr o f)
  | .elem cs f => some (.elem cs f)
  | _ => none

def intOp (op : BinOp) (k : IntKind) (a b : Int) : Option AV :=
  match op with
  | .add => some (.int k (k.wrap (a + b)))
  | .sub => some (.int k (k.wrap (a - b)))
  | .mul => some (.int k (k.wrap (a * b)))
  | .quo => if b = 0 then none else some (.int k (k.wrap (a.tdiv b)))
  | .rem => if b = 0 then none else some (.int k (a.tmod b))
  | .and => some (.int k (Go.bits .and k a b))
  | .or => some (.int k (Go.bits .or k a b))
  | .xor => some (.int k (Go.bits .xor k a b))
  | .andNot => some (.int k (Go.bits .andNot k a b))
  | .eql => some (.bool (a == b))
  | .neq => some (.bool (a != b))
  | .lss => some (.bool (a < b))
  | .leq => some (.bool (a ≤ b))
  | .gtr => some (.bool (a > b))
  | .geq => some (.bool (a ≥ b))
  | _ => none
def shiftOp (op : BinOp) (k : IntKind) (a b : Int) : Option AV :=
  if b < 0 then none else
  match op with
  | .shl => some (.int k (k.wrap (a * 2 ^ min b.toNat k.bits)))
  | .shr => some (.int k (a.fdiv (2 ^ min b.toNat k.bits)))
  | _ => none
def strOp (op : BinOp) (a b : List UInt8) : Option AV :=
  match op with
  | .add => if a.length + b.length ≤ 9223372036854775807 then some (.str (a ++ b)) else none
  | .eql => some (.bool (a == b))
  | .neq => some (.bool !(a == b))
  | .lss => some (.bool (Op.bytesLess a b))
  | .leq => some (.bool (Op.bytesLess a b || a == b))
  | .gtr => some (.bool !(Op.bytesLess a b || a == b))
  | .geq => some (.bool !(Op.bytesLess a b))
  | _ => none
def floatEqv (k : FloatKind) (a b : Nat) : Bool := k.format.order a b == some .eq
def floatOp (op : BinOp) (k : FloatKind) (a b : Nat) : Option AV :=
  match op with
  | .eql => some (.bool (k.format.order a b == some .eq))
  | .neq => some (.bool (k.format.order a b != some .eq))
  | .lss => some (.bool (k.format.order a b == some .lt))
  | .leq => some (.bool (k.format.order a b == some .lt || k.format.order a b == some .eq))
  | .gtr => some (.bool (k.format.order a b == some .gt))
  | .geq => some (.bool (k.format.order a b == some .gt || k.format.order a b == some .eq))
  | _ => none
def cplxOp (op : BinOp) (k : FloatKind) (a b c d : Nat) : Option AV :=
  match op with
  | .add => match k.format.add a c, k.format.add b d with
    | some r, some i => some (.cplx k r i)
    | _, _ => none
  | .eql => some (.bool (floatEqv k a c && floatEqv k b d))
  | .neq => some (.bool !(floatEqv k a c && floatEqv k b d))
  | _ => none

/-- A part of a struct's cells: 'agg' tells whether the part is a struct itself, 'n' how many cells it has. -/
def apart (agg : Bool) (n : Nat) (cs : List AV) (off : Nat) : Option AV :=
  if agg then (if off + n ≤ cs.length then some (.agg ((cs.drop off).take n)) else none) else cs[off]?

def Desc.isAgg : TypeDesc → Bool
  | .struct _ | .array _ _ => true
  | _ => false

def aeqIn (P : Program) : Nat → TypeId → AV → AV → Option Bool
  | 0, _, _, _ => none
  | d + 1, t, x, y =>
    match P.underlying t, x, y with
    | some .bool, .bool a, .bool b => some (a == b)
    | some (.int _), .int k a, .int k' b => if k = k' then some (a == b) else none
    | some (.float _), .float k a, .float k' b => if k = k' then some (floatEqv k a b) else none
    | some (.complex _), .cplx k a b, .cplx k' a' b' => if k = k' then some (floatEqv k a a' && floatEqv k b b') else none
    | some .string, .str a, .str b => some (a == b)
    | some (.pointer _), .nilp, .nilp => some true
    | some (.pointer _), .nilp, .ptr _ _ => some false
    | some (.pointer _), .ptr _ _, .nilp => some false
    | some (.interface _), .nili, .nili => some true
    | some (.interface _), .nili, .iface _ _ => some false
    | some (.interface _), .iface _ _, .nili => some false
    | some (.slice _), .nils, .nils => some true
    | some (.slice _), .nils, .sl _ _ _ => some false
    | some (.slice _), .nils, .osl _ _ _ _ => some false
    | some (.slice _), .sl _ _ _, .nils => some false
    | some (.slice _), .osl _ _ _ _, .nils => some false
    | some (.map _ _), .nilm, .nilm => some true
    | some (.map _ _), .nilm, .map _ => some false
    | some (.map _ _), .map _, .nilm => some false
    | some (.func _ _ _), .nilf, .nilf => some true
    | some (.func _ _ _), .nilf, .fn _ _ _ => some false
    | some (.func _ _ _), .fn _ _ _, .nilf => some false
    | some (.struct fs), .agg xs, .agg ys => if P.stoodInHeld t then none else eqFs P d xs ys fs.toList
    | _, _, _ => none
where
  eqFs (P : Program) (d : Nat) (xs ys : List AV) : List Field → Option Bool
    | [] => some true
    | f :: fs =>
      if f.name ≠ "_" then
        match (P.underlying f.type).bind fun u => apart (Desc.isAgg u) (P.cellsOf f.type) xs f.offset, (P.underlying f.type).bind fun u => apart (Desc.isAgg u) (P.cellsOf f.type) ys f.offset with
        | some a, some b =>
          match aeqIn P d f.type a b with
          | some true => eqFs P d xs ys fs
          | some false => some false
          | none => none
        | _, _ => none
      else eqFs P d xs ys fs

/-- Which two-place operations need to look at the type: the comparisons of what is neither number nor string. -/
def abin (P : Program) (op : BinOp) (t : TypeId) (x y : AV) : Option AV :=
  match x, y with
  | .int k a, .int k' b =>
    match op with
    | .shl | .shr => shiftOp op k a b
    | _ => if k = k' then intOp op k a b else none
  | .str a, .str b => strOp op a b
  | .float k a, .float k' b => if k = k' then floatOp op k a b else none
  | .cplx k a b, .cplx k' c d => if k = k' then cplxOp op k a b c d else none
  | .agg xs, .agg ys =>
    if P.eqGuardType P.depth t then none else
    match op with
    | .eql => (aeqIn P Op.maxDepth t (.agg xs) (.agg ys)).map .bool
    | .neq => (aeqIn P Op.maxDepth t (.agg xs) (.agg ys)).map fun b => .bool !b
    | _ => none
  | .nili, .nili => none
  | x, y =>
    match op with
    | .eql => (aeqIn P Op.maxDepth t x y).map .bool
    | .neq => (aeqIn P Op.maxDepth t x y).map fun b => .bool !b
    | _ => none

def aun (op : UnOp) (x : AV) : Option AV :=
  match op, x with
  | .neg, .int k n => some (.int k (k.wrap (0 - n)))
  | .not, .bool b => some (.bool !b)
  | _, _ => none

/-- Strings to bytes and back need memory: not here. -/
def convR (src dst : TypeDesc) (x : AV) : Option AV :=
  match src, dst, x with
  | _, .int k, .int _ n => some (.int k (k.wrap n))
  | _, .float k, .int _ n => some (.float k (k.nearest n))
  | _, .int k, .float s b => match (s.decode b).toInt .zero with
    | some n => if k.min ≤ n ∧ n ≤ k.max then some (.int k n) else none
    | none => none
  | .string, .string, .str s => some (.str s)
  | _, _, _ => none
def aconv (P : Program) (src dst : TypeId) (x : AV) : Option AV :=
  match P.underlying src, P.underlying dst with
  | some us, some ud => convR us ud x
  | _, _ => none

section
variable {P : Program} {G : Gh} {w : World}

theorem run_part {t : TypeId} {u : TypeDesc} (hu : P.underlying t = some u) (cs : Array Value) (off : Nat) :
    (part t cs off).run P w = if Desc.isAgg u then .ok (.agg (cs.extract off (off + P.cellsOf t))) w else
      match cs[off]? with
      | some v => .ok v w
      | none => .halt (.stuck "part: no such cell") w := by
  have hi : ∃ i, P.info? t = some i ∧ P.cellsOf t = i.size := by
    unfold Program.underlying at hu
    unfold Program.cellsOf
    cases h : P.info? t with
    | none => rw [h] at hu; cases hu
    | some i => exact ⟨i, rfl, by simp⟩
  obtain ⟨i, hi, hsz⟩ := hi
  unfold part isAgg
  simp only [Sem.run_bind, run_underlying hu, Result.andThen_ok]
  cases u <;> simp [Desc.isAgg, sizeOf, typeInfo, hi, hsz] <;> (cases cs[off]? <;> rfl)

theorem VRel.apart {cs : List AV} {vs : Array Value} (hs : vs.size = cs.length) (h : ∀ (i : Nat) (a : AV) (v : Value), cs[i]? = some a → vs[i]? = some v → VRel G a v)
    {t : TypeId} {u : TypeDesc} (hu : P.underlying t = some u) {off : Nat} {x : AV} (hx : Va.apart (Desc.isAgg u) (P.cellsOf t) cs off = some x) :
    ∃ v, (part t vs off).run P w = .ok v w ∧ VRel G x v := by
  unfold Va.apart at hx
  rw [run_part hu]
  split at hx
  · rename_i hagg
    rw [if_pos hagg]
    split at hx
    · rename_i hle
      cases hx
      refine ⟨_, rfl, .agg ?_ ?_⟩
      · simp; omega
      · intro i a v ha hv
        have hi : i < P.cellsOf t := by
          have := (List.getElem?_eq_some_iff.1 ha).1; simp at this; omega
        rw [List.getElem?_take_of_lt hi, List.getElem?_drop] at ha
        rw [Array.getElem?_extract] at hv
        split at hv
        · exact h _ a v ha hv
        · cases hv
    · cases hx
  · rename_i hagg
    rw [if_neg hagg]
    have hlt : off < cs.length := (List.getElem?_eq_some_iff.1 hx).1
    have hv : vs[off]? = some vs[off] := Array.getElem?_eq_getElem (by omega)
    rw [hv]
    exact ⟨_, rfl, h off x _ hx hv⟩

set_option maxHeartbeats 4000000 in
theorem aeq_sound : ∀ (d : Nat) (t : TypeId) (x y : AV) (vx vy : Value) (b : Bool), aeqIn P d t x y = some b → VRel G x vx → VRel G y vy →
    (Op.equalIn d t vx vy).run P w = .ok b w := by
  intro d
  induction d with
  | zero => intro t x y vx vy b h; simp [aeqIn] at h
  | succ d ih =>
    intro t x y vx vy b h hx hy
    unfold aeqIn at h
    split at h
    case h_23 fs xs ys ht =>
      split at h
      · cases h
      · rename_i hst
        cases hx with
        | agg hs1 h1 =>
          cases hy with
          | agg hs2 h2 =>
            rename_i vs1 vs2
            have hf : P.fieldsOf t = fs := by simp [Program.fieldsOf, ht]
            rw [run_equalIn_struct w d t vs1 vs2 (by rw [hf]; exact ht) (by simpa using hst), hf]
            generalize fs.toList = l at h
            clear ht hst hf
            induction l with
            | nil => simp [aeqIn.eqFs] at h; subst h; simp [Op.eqFields]
            | cons f l ihl =>
              unfold aeqIn.eqFs at h
              unfold Op.eqFields
              split at h
              · rename_i hn
                rw [if_pos hn]
                split at h
                · rename_i a c ha hc
                  simp only [Option.bind_eq_some_iff] at ha hc
                  obtain ⟨u, hu, ha⟩ := ha
                  obtain ⟨u', hu', hc⟩ := hc
                  rw [hu] at hu'; cases hu'
                  obtain ⟨va, hra, hva⟩ := VRel.apart (w := w) hs1 h1 hu ha
                  obtain ⟨vc, hrc, hvc⟩ := VRel.apart (w := w) hs2 h2 hu hc
                  simp only [Sem.run_bind, hra, hrc, Result.andThen_ok]
                  split at h
                  · rename_i he
                    rw [ih f.type a c va vc true he hva hvc]
                    simpa using ihl h
                  · rename_i he
                    cases h
                    rw [ih f.type a c va vc false he hva hvc]
                    simp
                  · cases h
                · cases h
              · rename_i hn
                rw [if_neg hn]
                exact ihl h
    case h_24 => cases h
    all_goals (clear ih; rename_i ht; try (split at h; rotate_left; (cases h); rename_i hk; subst hk))
    all_goals (cases h; cases hx; cases hy)
    all_goals first
      | (simp [Op.equalIn, run_underlying ht]; done)
      | (simp [Op.equalIn, run_underlying ht, floatEqv, Op.floatEq]; done)
      | (simp [Op.equalIn, run_underlying ht, beq_toListBytes]; done)
end
end Go.Va
