/-
  Regions over the plain view, in the order of their text: held against the machine's.
-/
import Derived.Test.YtfldcobcnlgapaaGreatDoorVaOps2
set_option linter.unusedVariables false
set_option linter.unusedSimpArgs false
set_option linter.unnecessarySimpa false
namespace Go.Va
open Go.RowKit (Below)

def ayield (ops : Array Oper) (ρ : Env) (j : Nat) : AV :=
  match (ops[j]?).bind (·.dst) with
  | some d => ρ d
  | none => nothing
def gwant (want : Bool) : AV → Option Bool
  | .bool b => some (b == want)
  | .tup [] => some false
  | _ => none
/-- Is an operation wanted? (none: it cannot be said) -/
def awant (ops : Array Oper) (ρ : Env) : Option (Nat × Bool) → Option Bool
  | none => some true
  | some (j, want) => gwant want (ayield ops ρ j)
def aguard (c : Option Bool) (e : (AV → AH → Prop) → Prop) (H : AH) (k : AV → AH → Prop) : Prop :=
  match c with
  | some true => e k
  | some false => k nothing H
  | none => False
def aops (P : Program) (ct : Table) (ops : Array Oper) : List Nat → Env → AH → (Env → AH → Prop) → Prop
  | [], ρ, H, K => K ρ H
  | i :: r, ρ, H, K =>
    match ops[i]? with
    | none => aops P ct ops r ρ H K
    | some o => aguard (awant ops ρ o.guard) (fun k => aop P ct o.op ρ H k) H fun v H' => aops P ct ops r (ρ.putO o.dst v) H' K

def dstOk (N : Nat) (o : Oper) : Bool := match o.dst with
  | some d => d < N
  | none => true
def opsOk (N : Nat) (ops : Array Oper) : Bool := ops.all (dstOk N)

/-- What a step of code leaves: a view further on, tmps that fit it. -/
def EPost (w0 : World) (G : Gh) (H : AH) (N : Nat) (K : Env → AH → Prop) (a : Act) (w : World) : Prop :=
  ∃ G' H' ρ', Gh.Le H.next G G' ∧ H.next ≤ H'.next ∧ HRel w0 G' H' w ∧ ERelA G' N ρ' a ∧ K ρ' H'
theorem EPost.trans {w0 : World} {G G1 : Gh} {H H1 : AH} {N : Nat} {K : Env → AH → Prop} {a : Act} {w : World} (h1 : Gh.Le H.next G G1) (h2 : H.next ≤ H1.next) (h : EPost w0 G1 H1 N K a w) : EPost w0 G H N K a w := by
  obtain ⟨G', H', ρ', g1, g2, g3, g4, g5⟩ := h
  exact ⟨G', H', ρ', h1.trans g1 h2, Nat.le_trans h2 g2, g3, g4, g5⟩

section
variable {P : Program} {w0 w : World} {G : Gh} {H : AH} {N : Nat} {ρ : Env} {a : Act} {ct : Table}

theorem yielded_of {ops : Array Oper} (he : ERelA G N ρ a) (hn : opsOk N ops = true) {j : Nat} : (∀ b, ayield ops ρ j = .bool b → yielded ops a.tmps j = some b) ∧ (ayield ops ρ j = .tup [] → yielded ops a.tmps j = none) := by
  unfold ayield yielded
  cases hd : (ops[j]?).bind (·.dst) with
  | none => exact ⟨fun b h => by simp [nothing] at h, fun h => by simp⟩
  | some d =>
    have hlt : d < N := by
      simp only [Option.bind_eq_some_iff] at hd
      obtain ⟨o, ho, hd⟩ := hd
      have := Array.all_eq_true_iff_forall_mem.1 hn o (Array.mem_of_getElem? ho)
      simpa [dstOk, hd] using this
    have hs : d < a.tmps.size := Nat.lt_of_lt_of_le hlt he.size
    have hv := he.val d
    have hg : a.tmps.getD d undef = a.tmps[d] := by simp [hs]
    rw [hg] at hv
    simp only [Option.bind_some, Array.getElem?_eq_getElem hs]
    constructor
    · intro b hb; rw [hb] at hv; generalize a.tmps[d] = u at hv; cases hv; rfl
    · intro hb; rw [hb] at hv; generalize a.tmps[d] = u at hv; cases hv; rfl

theorem awant_sound {ops : Array Oper} (he : ERelA G N ρ a) (hn : opsOk N ops = true) {o : Oper} {b : Bool} (h : awant ops ρ o.guard = some b) : Region.wanted o (yielded ops a.tmps) = b := by
  unfold Region.wanted
  cases hg : o.guard with
  | none => rw [hg] at h; simp [awant] at h; subst h; rfl
  | some g =>
    obtain ⟨j, want⟩ := g
    rw [hg] at h
    simp only [awant, gwant] at h
    obtain ⟨y1, y2⟩ := yielded_of (j := j) he hn
    split at h
    · rename_i b' hb
      simp only [y1 b' hb]
      cases h
      cases b' <;> cases want <;> rfl
    · rename_i hb
      simp only [y2 hb]
      cases h
      cases want <;> rfl
    · cases h

theorem aop_step (hct : ct.Ok w0 P) (hr : HRel w0 G H w) (he : ERelA G N ρ a) {o : Oper} (hd : dstOk N o = true) {K : AV → AH → Prop} (h : aop P ct o.op ρ H K) {next : Act → World → Prop} {Q : Exit → Act → World → Prop}
    (k : ∀ a' w', EPost w0 G H N (fun ρ' H' => ∃ v, ρ' = ρ.putO o.dst v ∧ K v H') a' w' → next a' w') : o.wp P a w next Q := by
  have h1 := aop_sound hct hr he h
  have hd' : ∀ x, o.dst = some x → x < N := by intro x hx; simpa [dstOk, hx] using hd
  have fin : ∀ v w', Post w0 G H K v w' → next (a.put o.dst v) w' := by
    intro v w' ⟨G', H', av, g1, g2, g3, g4, g5⟩
    exact k _ _ ⟨G', H', ρ.putO o.dst av, g1, g2, g3, (he.mono g1).putO hd' g4, av, rfl, g5⟩
  unfold Oper.wp
  generalize (execOp a.eval o).run P w = r at h1
  unfold OpOk at h1
  split at h1
  · rw [Oper.upon_value]; exact fin _ _ h1
  · rw [Oper.upon_skip]; exact fin _ _ h1
  · rw [Oper.upon_enter]
    refine Calls.mono h1 ?_
    rintro e w' ⟨v, rfl, hp⟩
    exact fin _ _ hp
  · exact h1.elim

theorem aops_sound (hct : ct.Ok w0 P) {ops : Array Oper} (hn : opsOk N ops = true) {K : Env → AH → Prop} {Q : Exit → Act → World → Prop} : ∀ (l : List Nat) (ρ : Env) (H : AH) (G : Gh) (a : Act) (w : World),
    aops P ct ops l ρ H K → HRel w0 G H w → ERelA G N ρ a → (∀ a' w', EPost w0 G H N K a' w' → Q .normal a' w') → wpOps P ops Q l a w
  | [], ρ, H, G, a, w, h, hr, he, k => by
    exact k a w ⟨G, H, ρ, .refl _ _, Nat.le_refl _, hr, he, h⟩
  | i :: l, ρ, H, G, a, w, h, hr, he, k => by
    unfold aops at h
    unfold wpOps
    cases ho : ops[i]? with
    | none => rw [ho] at h; exact aops_sound hct hn l ρ H G a w h hr he k
    | some o =>
      rw [ho] at h
      simp only at h ⊢
      have hd : dstOk N o = true := Array.all_eq_true_iff_forall_mem.1 hn o (Array.mem_of_getElem? ho)
      have hd' : ∀ x, o.dst = some x → x < N := by intro x hx; simpa [dstOk, hx] using hd
      unfold aguard at h
      split at h
      · rename_i hw
        rw [awant_sound he hn hw]
        simp only [if_true]
        refine .inl (aop_step hct hr he hd h ?_)
        rintro a' w' ⟨G', H', ρ', g1, g2, g3, g4, v, rfl, g5⟩
        exact aops_sound hct hn l _ _ _ _ _ g5 g3 g4 fun a'' w'' hp => k _ _ (hp.trans g1 g2)
      · rename_i hw
        rw [awant_sound he hn hw]
        simp only [Bool.false_eq_true, if_false]
        exact aops_sound hct hn l _ H G _ w h hr (he.putO hd' (.tup rfl fun i a v h => by simp at h)) k
      · exact h.elim
end
end Go.Va
