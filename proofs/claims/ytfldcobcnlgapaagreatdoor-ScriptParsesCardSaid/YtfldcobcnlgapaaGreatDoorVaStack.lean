/-
  The code of a function over the plain view, as the machine walks it: a stack of what is still to do; points at which a walk may stop.
-/
import Derived.Test.YtfldcobcnlgapaaGreatDoorVaDraw6
set_option linter.unusedVariables false
set_option linter.unusedSimpArgs false
set_option linter.unnecessarySimpa false
namespace Go.Va
open Go.RowKit (Below)

-- ---------------------------------------------------------------- what a function leaves
def ares1 (P : Program) (ρ : Env) (H : AH) : ResultVar → Option AV
  | .tmp t => some (ρ t)
  | .cell a t => (P.underlying t).bind fun u => if Desc.isAgg u then ldN (P.cellsOf t) (ρ a) H else ld1 (ρ a) H
def aresK (P : Program) (ρ : Env) (H : AH) : List ResultVar → (List AV → Prop) → Prop
  | [], k => k []
  | x :: l, k => bnd (ares1 P ρ H x) fun v => aresK P ρ H l fun vs => k (v :: vs)
def one1 : List AV → AV
  | [v] => v
  | vs => .tup vs
def ares (P : Program) (rs : List ResultVar) (K : AV → AH → Prop) (ρ : Env) (H : AH) : Prop := aresK P ρ H rs fun vs => K (one1 vs) H

/-- one result, read -/
def resF (tmps : Array Value) : ResultVar → Sem Value
  | .tmp t => pure (tmps.getD t undef)
  | .cell a t => do loadVar t (← asAddr (tmps.getD a undef))
theorem results_eq (fn : Func) (tmps : Array Value) : results fn tmps = (do
    let vs ← fn.results.mapM (resF tmps)
    pure (if h : vs.size = 1 then vs[0] else .tuple vs)) := by
  unfold results
  congr 1

section
variable {P : Program} {w0 w : World} {G : Gh} {H : AH} {N : Nat} {ρ : Env} {a : Act} {ct : Table}

theorem ares1usound (hr : HRel w0 G H w) (he : ERelA G N ρ a) {x : ResultVar} {r : AV} (h : ares1 P ρ H x = some r) :
    ∃ v, (resF a.tmps x).run P w = .ok v w ∧ VRel G r v := by
  cases x with
  | tmp t => simp only [ares1, Option.some.injEq] at h; subst h; exact ⟨_, rfl, he.val t⟩
  | cell ad t =>
    simp only [ares1, Option.bind_eq_some_iff] at h
    obtain ⟨u, hu, h⟩ := h
    split at h
    · rename_i hag
      obtain ⟨p, v, h1, h2, h3⟩ := ldN_sound (P := P) hr h (he.val ad)
      refine ⟨.agg v, ?_, h3⟩
      simp only [resF, h1, asAddr, loadVar, Sem.run_bind, Sem.run_pure, Result.andThen_ok, run_isAgg hu, hag, if_true, run_sizeOf hu, h2]
    · rename_i hag
      obtain ⟨p, v, h1, h2, h3⟩ := ld1usound (P := P) hr h (he.val ad)
      refine ⟨v, ?_, h3⟩
      have hag' : Desc.isAgg u = false := by simpa using hag
      simp only [resF, h1, asAddr, loadVar, Sem.run_bind, Sem.run_pure, Result.andThen_ok, run_isAgg hu, hag', Bool.false_eq_true, if_false, h2]

theorem aresL_sound (hr : HRel w0 G H w) (he : ERelA G N ρ a) : ∀ (l : List ResultVar) (k : List AV → Prop), aresK P ρ H l k →
    ∃ (vs : List Value) (r : List AV), (l.mapM (resF a.tmps)).run P w = .ok vs w ∧ k r ∧ vs.length = r.length ∧ ∀ (i : Nat) (x : AV) (v : Value), r[i]? = some x → vs[i]? = some v → VRel G x v
  | [], k, h => ⟨[], [], by simp [List.mapM_nil], h, rfl, fun i x v h => by simp at h⟩
  | x :: l, k, h => by
    obtain ⟨v, h1, h2⟩ := bnd_ex h
    obtain ⟨u, e1, e2⟩ := ares1usound (P := P) hr he h1
    obtain ⟨us, r, f1, f0, f2, f3⟩ := aresL_sound hr he l _ h2
    refine ⟨u :: us, v :: r, ?_, f0, by simp [f2], fun i y z hy hz => ?_⟩
    · rw [List.mapM_cons]
      simp only [Sem.run_bind, e1, Result.andThen_ok, f1, Sem.run_pure]
    · cases i with
      | zero => simp at hy hz; subst hy; subst hz; exact e2
      | succ i => exact f3 i y z (by simpa using hy) (by simpa using hz)

theorem ares_sound (hr : HRel w0 G H w) (he : ERelA G N ρ a) {fn : Func} {K : AV → AH → Prop} (h : ares P fn.results.toList K ρ H) : ∃ v, (results fn a.tmps).run P w = .ok v w ∧ Post w0 G H K v w := by
  obtain ⟨vs, r, e1, h2, e2, e3⟩ := aresL_sound (P := P) hr he _ _ h
  have hm : (fn.results.mapM (resF a.tmps)).run P w = .ok vs.toArray w := by
    rw [← Array.toArray_toList (xs := fn.results), List.mapM_toArray]
    simp [e1]
  rw [results_eq]
  simp only [Sem.run_bind, hm, Result.andThen_ok, Sem.run_pure]
  match r, vs, e2, e3, h2 with
  | [x], [v], _, e3, h2 => exact ⟨v, rfl, Post.same hr (e3 0 x v rfl rfl) h2⟩
  | [], [], _, e3, h2 => exact ⟨_, rfl, Post.same hr (.tup rfl fun i a v h => by simp at h) h2⟩
  | x :: y :: r, v :: u :: vs, e2, e3, h2 =>
    refine ⟨.tuple (v :: u :: vs).toArray, ?_, Post.same hr (.tup (by simpa using e2) fun i a z h hz => e3 i a z h (by simpa using hz)) h2⟩
    rw [dif_neg (by simp)]
end
end Go.Va
