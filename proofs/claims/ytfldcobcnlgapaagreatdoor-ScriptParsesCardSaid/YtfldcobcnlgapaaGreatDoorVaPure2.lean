/-
  The operations on plain values, held against the machine's.
-/
import Derived.Test.YtfldcobcnlgapaaGreatDoorVaPure
import Derived.Laws.Cover3
import Derived.WalkLawsBesides
set_option linter.unusedVariables false
set_option linter.unusedSimpArgs false
set_option linter.unnecessarySimpa false
namespace Go.Va
section
variable {P : Program} {G : Gh} {w : World}

theorem intOp_sound {op : BinOp} {k : IntKind} {a b : Int} {t : TypeId} {r : AV} (hs : op ≠ .shl) (hs' : op ≠ .shr) (h : intOp op k a b = some r) :
    ∃ v, (binOp op t (.int k a) (.int k b)).run P w = .ok v w ∧ VRel G r v := by
  cases op <;> simp only [intOp] at h <;> first
    | exact absurd rfl hs
    | exact absurd rfl hs'
    | (cases h; done)
    | (cases h; refine ⟨_, ?_, VRel.int _ _⟩; simp [binOp, Op.intArith, Op.intBits, Go.bits]; done)
    | (cases h; refine ⟨_, ?_, VRel.bool _⟩; simp [binOp, Op.intCmp]; done)
    | (split at h
       · cases h
       · rename_i hb
         cases h
         refine ⟨_, ?_, VRel.int _ _⟩
         simp [binOp, Op.intDiv, hb])

theorem shiftOp_sound {op : BinOp} {k k' : IntKind} {a b : Int} {t : TypeId} {r : AV} (h : shiftOp op k a b = some r) :
    ∃ v, (binOp op t (.int k a) (.int k' b)).run P w = .ok v w ∧ VRel G r v := by
  unfold shiftOp at h
  split at h
  · cases h
  · rename_i hb
    cases op <;> simp only [reduceCtorEq] at h
    · cases h
      refine ⟨_, ?_, VRel.int _ _⟩
      simp [binOp, Op.shift, hb]
    · cases h
      refine ⟨_, ?_, VRel.int _ _⟩
      simp [binOp, Op.shift, hb]

theorem strOp_sound {op : BinOp} {a b : List UInt8} {t : TypeId} {r : AV} (h : strOp op a b = some r) :
    ∃ v, (binOp op t (.string ⟨a.toArray⟩) (.string ⟨b.toArray⟩)).run P w = .ok v w ∧ VRel G r v := by
  have hb : binOp op t (.string ⟨a.toArray⟩) (.string ⟨b.toArray⟩) = Op.stringOp op ⟨a.toArray⟩ ⟨b.toArray⟩ := by cases op <;> rfl
  rw [hb]
  cases op <;> simp only [strOp] at h <;> first
    | (cases h; done)
    | (cases h; refine ⟨_, ?_, VRel.bool _⟩; simp [Op.stringOp]; done)
    | (split at h
       · rename_i hle
         cases h
         refine ⟨_, ?_, VRel.str _⟩
         have h1 : (⟨a.toArray⟩ : ByteArray).size = a.length := by simp [ByteArray.size]
         have h2 : (⟨b.toArray⟩ : ByteArray).size = b.length := by simp [ByteArray.size]
         have h3 : (⟨a.toArray⟩ : ByteArray) ++ ⟨b.toArray⟩ = ⟨(a ++ b).toArray⟩ := by
           apply ByteArray.ext; simp
         simp only [Op.stringOp, h1, h2, h3, IntKind.max_i64]
         rw [if_neg (by omega)]
         simp
       · cases h)

theorem floatOp_sound {op : BinOp} {k : FloatKind} {a b : Nat} {t : TypeId} {r : AV} (h : floatOp op k a b = some r) :
    ∃ v, (binOp op t (.float k a) (.float k b)).run P w = .ok v w ∧ VRel G r v := by
  cases op <;> simp only [floatOp] at h <;> first
    | (cases h; done)
    | (cases h; refine ⟨_, ?_, VRel.bool _⟩; simp [binOp, Op.floatCmp]; done)

theorem cplxOp_sound {op : BinOp} {k : FloatKind} {a b c d : Nat} {t : TypeId} {r : AV} (h : cplxOp op k a b c d = some r) :
    ∃ v, (binOp op t (.complex k a b) (.complex k c d)).run P w = .ok v w ∧ VRel G r v := by
  have hb : binOp op t (.complex k a b) (.complex k c d) = Op.complexOp op k a b c d := by cases op <;> simp [binOp]
  rw [hb]
  cases op <;> simp only [cplxOp] at h <;> first
    | (cases h; done)
    | (cases h; refine ⟨_, ?_, VRel.bool _⟩; simp [Op.complexOp, Op.Complex.cmp, Op.floatCmp, floatEqv, asBool]; done)
    | (split at h
       · rename_i r' i' hr hi
         cases h
         refine ⟨_, ?_, VRel.cplx _ _ _⟩
         simp [Op.complexOp, Op.Complex.arith, Op.floatArith, hr, hi]
       · cases h)

/-- Pairs whose comparison is the type's own, and needs no guard. -/
structure Plainly (t : TypeId) (vx vy : Value) : Prop where
  eql : binOp .eql t vx vy = do pure (.bool (← Op.equal t vx vy))
  neq : binOp .neq t vx vy = do pure (.bool (!(← Op.equal t vx vy)))
  guard : ∀ op ox oy, eqGuard op t ox oy vx vy = pure ()

set_option maxHeartbeats 4000000 in
theorem aeq_plain {d : Nat} {t : TypeId} {x y : AV} {vx vy : Value} {b : Bool} (h : aeqIn P (d + 1) t x y = some b) (hx : VRel G x vx) (hy : VRel G y vy)
    (n1 : ∀ k a k' b, x = .int k a → y = .int k' b → False) (n2 : ∀ a b, x = .str a → y = .str b → False) (n3 : ∀ k a k' b, x = .float k a → y = .float k' b → False)
    (n4 : ∀ k a b k' c d, x = .cplx k a b → y = .cplx k' c d → False) (n5 : ∀ xs ys, x = .agg xs → y = .agg ys → False) (n6 : x = .nili → y = .nili → False) : Plainly t vx vy := by
  unfold aeqIn at h
  split at h
  all_goals first
    | exact (n1 _ _ _ _ rfl rfl).elim
    | exact (n2 _ _ rfl rfl).elim
    | exact (n3 _ _ _ _ rfl rfl).elim
    | exact (n4 _ _ _ _ _ _ rfl rfl).elim
    | exact (n5 _ _ rfl rfl).elim
    | exact (n6 rfl rfl).elim
    | (cases h; done)
    | skip
  all_goals (clear h; cases hx; cases hy)
  all_goals (refine ⟨rfl, rfl, fun op ox oy => ?_⟩; simp only [eqGuard_at_bool, eqGuard_at_pointer, eqGuard_at_slice, eqGuard_at_map, eqGuard_at_func, eqGuard_at_nilFunc, eqGuard_at_iface, eqGuard_nil_iface])

theorem abin_sound {op : BinOp} {t : TypeId} {x y r : AV} {vx vy : Value} (h : abin P op t x y = some r) (hx : VRel G x vx) (hy : VRel G y vy) :
    (∃ v, (binOp op t vx vy).run P w = .ok v w ∧ VRel G r v) ∧ ∀ ox oy, (eqGuard op t ox oy vx vy).run P w = .ok () w := by
  unfold abin at h
  split at h
  · -- two integers
    cases hx; cases hy
    refine ⟨?_, fun _ _ => by rw [eqGuard_at_int]; rfl⟩
    split at h
    · exact shiftOp_sound h
    · exact shiftOp_sound h
    · rename_i n1 n2
      split at h
      · rename_i hk; subst hk; exact intOp_sound n1 n2 h
      · cases h
  · cases hx; cases hy
    exact ⟨strOp_sound h, fun _ _ => by rw [eqGuard_at_string]; rfl⟩
  · cases hx; cases hy
    split at h
    · rename_i hk; subst hk; exact ⟨floatOp_sound h, fun _ _ => by rw [eqGuard_at_float]; rfl⟩
    · cases h
  · cases hx; cases hy
    split at h
    · rename_i hk; subst hk; exact ⟨cplxOp_sound h, fun _ _ => by rw [eqGuard_at_complex]; rfl⟩
    · cases h
  · rename_i xs ys
    split at h
    · cases h
    · rename_i hg
      have hg' : P.eqGuardType P.depth t = false := by simpa using hg
      cases hx with
      | agg hs1 h1 =>
        cases hy with
        | agg hs2 h2 =>
          refine ⟨?_, fun ox oy => run_eqGuard_agg (P := P) w op t ox oy _ _ hg'⟩
          split at h
          · simp only [Option.map_eq_some_iff] at h
            obtain ⟨b, hb, rfl⟩ := h
            have := aeq_sound (P := P) (w := w) _ t _ _ _ _ b hb (VRel.agg hs1 h1) (VRel.agg hs2 h2)
            refine ⟨.bool b, ?_, .bool _⟩
            simp only [binOp]
            simp [Op.equal, this]
          · simp only [Option.map_eq_some_iff] at h
            obtain ⟨b, hb, rfl⟩ := h
            have := aeq_sound (P := P) (w := w) _ t _ _ _ _ b hb (VRel.agg hs1 h1) (VRel.agg hs2 h2)
            refine ⟨.bool !b, ?_, .bool _⟩
            simp only [binOp]
            simp [Op.equal, this]
          · cases h
  · cases h
  · rename_i n1 n2 n3 n4 n5 n6
    split at h
    · simp only [Option.map_eq_some_iff] at h
      obtain ⟨b, hb, rfl⟩ := h
      have he := aeq_sound (P := P) (w := w) _ t _ _ _ _ b hb hx hy
      have hp := aeq_plain hb hx hy n1 n2 n3 n4 n5 n6
      exact ⟨⟨.bool b, by rw [hp.eql]; simp [Op.equal, he], .bool _⟩, fun ox oy => by rw [hp.guard]; rfl⟩
    · simp only [Option.map_eq_some_iff] at h
      obtain ⟨b, hb, rfl⟩ := h
      have he := aeq_sound (P := P) (w := w) _ t _ _ _ _ b hb hx hy
      have hp := aeq_plain hb hx hy n1 n2 n3 n4 n5 n6
      exact ⟨⟨.bool !b, by rw [hp.neq]; simp [Op.equal, he], .bool _⟩, fun ox oy => by rw [hp.guard]; rfl⟩
    · cases h

theorem aun_sound {op : UnOp} {x r : AV} {vx : Value} (h : aun op x = some r) (hx : VRel G x vx) : ∃ v, (Op.unary op vx).run P w = .ok v w ∧ VRel G r v := by
  unfold aun at h
  split at h
  · cases hx; cases h; exact ⟨_, by simp [Op.unary, Op.intArith], .int _ _⟩
  · cases hx; cases h; exact ⟨_, by simp [Op.unary], .bool _⟩
  · cases h

theorem aconv_sound {src dst : TypeId} {x r : AV} {vx : Value} (h : aconv P src dst x = some r) (hx : VRel G x vx) : ∃ v, (convert src dst vx).run P w = .ok v w ∧ VRel G r v := by
  unfold aconv at h
  split at h
  case h_2 => cases h
  rename_i us ud hs hd
  unfold convR at h
  split at h
  · cases hx; cases h
    refine ⟨_, ?_, .int _ _⟩
    simp [convert, run_underlying hs, run_underlying hd, Conv.intToInt]
  · cases hx; cases h
    refine ⟨_, ?_, .float _ _⟩
    simp [convert, run_underlying hs, run_underlying hd, Conv.intToFloat]
  · cases hx
    split at h
    · rename_i n hn
      split at h
      · rename_i hb
        cases h
        refine ⟨_, ?_, .int _ _⟩
        simp [convert, run_underlying hs, run_underlying hd, Conv.floatToInt, hn, hb]
      · cases h
    · cases h
  · cases hx; cases h
    refine ⟨_, ?_, .str _⟩
    simp [convert, run_underlying hs, run_underlying hd]
  · cases h
end
end Go.Va
