/-
  Comparisons with nil, and of structs whose fields are numbers, texts, bools.
-/
import Derived.Test.YtfldcobcnlgapaaGreatDoorVaPure2
set_option linter.unusedVariables false
set_option linter.unusedSimpArgs false
set_option linter.unnecessarySimpa false
namespace Go.Va
inductive NK where
  | p | s | m | f | i
  deriving DecidableEq
def cmpRes (op : BinOp) (b : Bool) : Option AV := match op with
  | .eql => some (.bool b)
  | .neq => some (.bool !b)
  | _ => none
/-- against the literal nil -/
def cmpNil (k : NK) (op : BinOp) (x : AV) : Option AV :=
  match k, x with
  | .p, .nilp => cmpRes op true
  | .p, .ptr _ _ => cmpRes op false
  | .s, .nils => cmpRes op true
  | .s, .sl _ _ _ => cmpRes op false
  | .s, .osl _ _ _ _ => cmpRes op false
  | .m, .nilm => cmpRes op true
  | .m, .map _ => cmpRes op false
  | .f, .nilf => cmpRes op true
  | .f, .fn _ _ _ => cmpRes op false
  | .i, .nili => cmpRes op true
  | .i, .iface _ _ => cmpRes op false
  | _, _ => none
inductive EK where
  | int | str | bool | cplx | float
  deriving DecidableEq
def eq1 (k : EK) (x y : AV) : Option Bool :=
  match k, x, y with
  | .bool, .bool a, .bool b => some (a == b)
  | .int, .int k a, .int k' b => if k = k' then some (a == b) else none
  | .float, .float k a, .float k' b => if k = k' then some (floatEqv k a b) else none
  | .cplx, .cplx k a b, .cplx k' a' b' => if k = k' then some (floatEqv k a a' && floatEqv k b b') else none
  | .str, .str a, .str b => some (a == b)
  | _, _, _ => none
def eqL : List (Nat × EK) → List AV → List AV → Option Bool
  | [], _, _ => some true
  | (off, k) :: r, xs, ys =>
    match xs[off]?, ys[off]? with
    | some a, some b => match eq1 k a b with
      | some true => eqL r xs ys
      | some false => some false
      | none => none
    | _, _ => none
def eqAgg (op : BinOp) (ks : List (Nat × EK)) (x y : AV) : Option AV :=
  match x, y with
  | .agg xs, .agg ys => match eqL ks xs ys with
    | some b => cmpRes op b
    | none => none
  | _, _ => none
def leafK (P : Program) (t : TypeId) : Option EK :=
  match P.underlying t with
  | some .bool => some .bool
  | some (.int _) => some .int
  | some (.float _) => some .float
  | some (.complex _) => some .cplx
  | some .string => some .str
  | _ => none
def leafs (P : Program) : List Field → Option (List (Nat × EK))
  | [] => some []
  | f :: fs => if f.name ≠ "_" then (leafK P f.type).bind fun k => (leafs P fs).map fun r => (f.offset, k) :: r else none
def isEq : BinOp → Bool
  | .eql | .neq => true
  | _ => false
def isNilC : Operand → Option NK
  | .const (.pointer none) => some .p
  | .const (.slice none 0 0) => some .s
  | .const (.map none) => some .m
  | .const .nilFunc => some .f
  | .const .nilIface => some .i
  | _ => none
def nkOk (k : NK) (u : Option TypeDesc) : Bool :=
  match k, u with
  | .p, some (.pointer _) => true
  | .s, some (.slice _) => true
  | .m, some (.map _ _) => true
  | .f, some (.func _ _ _) => true
  | .i, some (.interface _) => true
  | _, _ => false
def abino (P : Program) (op : BinOp) (t : TypeId) (c : Option NK) (x y : AV) : Option AV :=
  match c with
  | some k => match nkOk k (P.underlying t) with
    | true => cmpNil k op x
    | false => none
  | none => match isEq op with
    | false => abin P op t x y
    | true => match P.underlying t with
      | some (.struct fs) => if P.eqGuardType P.depth t = true ∨ P.stoodInHeld t = true then none else match leafs P fs.toList with
        | some ks => eqAgg op ks x y
        | none => abin P op t x y
      | _ => abin P op t x y

section
variable {P : Program} {G : Gh} {w : World}
theorem eq1uaeq {t : TypeId} {k : EK} {x y : AV} {b : Bool} {d : Nat} (hk : leafK P t = some k) (h : eq1 k x y = some b) : aeqIn P (d + 1) t x y = some b := by
  unfold leafK at hk
  unfold eq1 at h
  split at h
  all_goals first | (cases h; done) | skip
  all_goals (split at hk <;> first | (cases hk; done) | skip)
  all_goals (rename_i hu; unfold aeqIn; simp only [hu]; exact h)
theorem eqL_aeq {d : Nat} : ∀ (fs : List Field) (ks : List (Nat × EK)) (xs ys : List AV) (b : Bool), leafs P fs = some ks → eqL ks xs ys = some b → aeqIn.eqFs P (d + 1) xs ys fs = some b
  | [], ks, xs, ys, b, h, h2 => by
    simp only [leafs, Option.some.injEq] at h
    subst h
    simpa [aeqIn.eqFs, eqL] using h2
  | f :: fs, ks, xs, ys, b, h, h2 => by
    unfold leafs at h
    split at h
    case isFalse => cases h
    rename_i hn
    simp only [Option.bind_eq_some_iff, Option.map_eq_some_iff] at h
    obtain ⟨k, hk, r, hr, rfl⟩ := h
    unfold eqL at h2
    split at h2
    case h_2 => cases h2
    rename_i a c ha hc
    have hu : ∃ u, P.underlying f.type = some u ∧ Desc.isAgg u = false := by
      unfold leafK at hk
      split at hk
      all_goals first | (cases hk; done) | (rename_i hu; exact ⟨_, hu, rfl⟩)
    obtain ⟨u, hu, hagg⟩ := hu
    unfold aeqIn.eqFs
    rw [if_pos hn]
    simp only [hu, Option.bind_some, hagg, apart, Bool.false_eq_true, if_false, ha, hc]
    split at h2
    · rename_i he
      rw [eq1uaeq hk he]
      exact eqL_aeq fs r xs ys b hr h2
    · rename_i he
      rw [eq1uaeq hk he]
      exact h2
    · cases h2
theorem cmpNil_abin {op : BinOp} {t : TypeId} {x r : AV} {b : Bool} {y : AV} (h : cmpRes op b = some r) (ha : aeqIn P Op.maxDepth t x y = some b) (hab : ∀ op, abin P op t x y = match op with
      | .eql => (aeqIn P Op.maxDepth t x y).map .bool
      | .neq => (aeqIn P Op.maxDepth t x y).map fun b => .bool !b
      | _ => none) : abin P op t x y = some r := by
  rw [hab]
  unfold cmpRes at h
  split at h <;> first | (cases h; done) | (cases h; simp [ha])
theorem nili_sound {op : BinOp} {t : TypeId} {r : AV} {ms} (hu : P.underlying t = some (.interface ms)) (h : cmpRes op true = some r) : ∃ v, (binOp op t .nilIface .nilIface).run P w = .ok v w ∧ VRel G r v := by
  have e1 : binOp .eql t .nilIface .nilIface = (do pure (.bool (← Op.equal t .nilIface .nilIface))) := rfl
  have e2 : binOp .neq t .nilIface .nilIface = (do pure (.bool !(← Op.equal t .nilIface .nilIface))) := rfl
  have e3 : (Op.equalIn Op.maxDepth t .nilIface .nilIface).run P w = .ok true w := by
    show (Op.equalIn (Op.maxDepth - 1 + 1) t .nilIface .nilIface).run P w = _
    simp [Op.equalIn, run_underlying hu]
  unfold cmpRes at h
  split at h
  · cases h; exact ⟨_, by rw [e1]; simp [Op.equal, e3], .bool _⟩
  · cases h; exact ⟨_, by rw [e2]; simp [Op.equal, e3], .bool _⟩
  · cases h
theorem abino_sound {op : BinOp} {t : TypeId} {ox oy : Operand} {x y r : AV} {vx vy : Value} (h : abino P op t (isNilC oy) x y = some r) (hx : VRel G x vx) (hy : VRel G y vy) (hc : ∀ c, oy = .const c → vy = c ∧ y = aconst c) :
    (∃ v, (binOp op t vx vy).run P w = .ok v w ∧ VRel G r v) ∧ (eqGuard op t ox oy vx vy).run P w = .ok () w := by
  have viaabin : abin P op t x y = some r → (∃ v, (binOp op t vx vy).run P w = .ok v w ∧ VRel G r v) ∧ (eqGuard op t ox oy vx vy).run P w = .ok () w := fun ha => by
    have := abin_sound (P := P) (w := w) ha hx hy
    exact ⟨this.1, this.2 ox oy⟩
  have aeq1 : ∀ {z : AV} {b : Bool}, aeqIn P (Op.maxDepth - 1 + 1) t x z = some b → aeqIn P Op.maxDepth t x z = some b := fun h => h
  unfold abino at h
  split at h
  · rename_i k hn
    -- against nil
    split at h
    case h_2 => cases h
    rename_i hk
    unfold isNilC at hn
    split at hn
    case h_6 => cases hn
    all_goals (cases hn; obtain ⟨hv, hyc⟩ := hc _ rfl; subst hv; simp only [aconst, aconst1] at hyc; subst hyc)
    all_goals (unfold nkOk at hk; split at hk <;> first | (cases hk; done) | contradiction | skip)
    all_goals (rename_i hu; unfold cmpNil at h; split at h <;> first | (cases h; done) | contradiction | skip)
    all_goals first
      | (refine viaabin (cmpNil_abin h (aeq1 (by unfold aeqIn; simp only [hu])) fun op => ?_); cases op <;> rfl)
      | skip
    · cases hx
      exact ⟨nili_sound hu h, by rw [eqGuard_nil_constR]; rfl⟩
  · split at h
    · have := abin_sound (P := P) (w := w) h hx hy
      exact ⟨this.1, this.2 ox oy⟩
    · split at h
      · rename_i fs hu
        split at h
        · cases h
        · rename_i hg
          simp only [not_or, Bool.not_eq_true] at hg
          split at h
          · rename_i ks hks
            unfold eqAgg at h
            split at h
            case h_2 => cases h
            rename_i xs ys
            split at h
            case h_2 => cases h
            rename_i b hb
            have : aeqIn P Op.maxDepth t (.agg xs) (.agg ys) = some b := by
              have := eqL_aeq (P := P) (d := Op.maxDepth - 2) fs.toList ks xs ys b hks hb
              show aeqIn P (Op.maxDepth - 2 + 1 + 1) t _ _ = _
              unfold aeqIn
              simp only [hu, hg.2, Bool.false_eq_true, if_false]
              exact this
            have ha : abin P op t (.agg xs) (.agg ys) = some r := by
              unfold cmpRes at h
              simp only [abin, hg.1, Bool.false_eq_true, if_false, this]
              split at h <;> first | (cases h; done) | (cases h; rfl)
            have := abin_sound (P := P) (w := w) ha hx hy
            exact ⟨this.1, this.2 ox oy⟩
          · have := abin_sound (P := P) (w := w) h hx hy
            exact ⟨this.1, this.2 ox oy⟩
      · have := abin_sound (P := P) (w := w) h hx hy
        exact ⟨this.1, this.2 ox oy⟩
end
end Go.Va
