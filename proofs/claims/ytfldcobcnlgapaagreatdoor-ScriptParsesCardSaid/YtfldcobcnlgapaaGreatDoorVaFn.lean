/-
  Functions over the plain view: points, loops, calls.
-/
import Derived.Test.YtfldcobcnlgapaaGreatDoorVaWalk
set_option linter.unusedVariables false
set_option linter.unusedSimpArgs false
set_option linter.unnecessarySimpa false
namespace Go.Va
open Go.RowKit (Below)

/-- the least that a loop's pass asks for -/
def LoopP (b : (List AV → AH → Prop) → List AV → AH → Prop) (s : List AV) (H : AH) : Prop :=
  ∀ X : List AV → AH → Prop, (∀ (Y : List AV → AH → Prop) s H, (∀ s' H', Y s' H' → X s' H') → b Y s H → X s H) → X s H
theorem LoopP.intro {b : (List AV → AH → Prop) → List AV → AH → Prop} {s : List AV} {H : AH} (Y : List AV → AH → Prop) (hY : ∀ s' H', Y s' H' → LoopP b s' H') (h : b Y s H) : LoopP b s H :=
  fun X hX => hX Y s H (fun s' H' h' => hY s' H' h' X hX) h
theorem LoopP.fold {b : (List AV → AH → Prop) → List AV → AH → Prop} {s : List AV} {H : AH} (h : b (LoopP b) s H) : LoopP b s H := LoopP.intro _ (fun _ _ h => h) h

def akid (n : Nat) (x : Code × List AIt) (r : Bool) : Option (Code × List AIt) :=
  match x.1, r with
  | .seq a b, false => some (a, .code (2 * n + 1) b :: x.2)
  | .seq _ b, true => some (b, x.2)
  | .cond _ a _, false => some (a, x.2)
  | .cond _ _ b, true => some (b, x.2)
  | .block id c, false => some (c, .inBlock id :: x.2)
  | .loop c, false => some (c, .inLoop (2 * n) c :: x.2)
  | .scope c, false => some (c, .inScope (2 * n) c :: x.2)
  | _, _ => none
def aplace (body : Code) : List Bool → Option (Code × List AIt)
  | [] => some (body, [])
  | r :: p => (aplace body p).bind fun x => akid (num p) x r
theorem aplace_spec (body : Code) : ∀ (p : List Bool) (c : Code) (s : List AIt), aplace body p = some (c, s) → ctx body p = some (c, bare s) ∧ Well body s
  | [], c, s, h => by simp [aplace] at h; obtain ⟨rfl, rfl⟩ := h; exact ⟨rfl, trivial⟩
  | r :: p, c, s, h => by
    simp only [aplace, Option.bind_eq_some_iff] at h
    obtain ⟨⟨c0, s0⟩, h1, h2⟩ := h
    obtain ⟨e1, e2⟩ := aplace_spec body p c0 s0 h1
    cases c0 <;> cases r <;> simp only [akid, Option.some.injEq, Prod.mk.injEq, reduceCtorEq] at h2
    all_goals (obtain ⟨rfl, rfl⟩ := h2)
    · exact ⟨by simp [ctx, e1, kid, bare, AIt.bare], ⟨true :: p, by simp [num], by simp [ctx, e1, kid]⟩, e2⟩
    · exact ⟨by simp [ctx, e1, kid], e2⟩
    · exact ⟨by simp [ctx, e1, kid], e2⟩
    · exact ⟨by simp [ctx, e1, kid], e2⟩
    · exact ⟨by simp [ctx, e1, kid, bare, AIt.bare], e2⟩
    · exact ⟨by simp [ctx, e1, kid, bare, AIt.bare], ⟨false :: p, by simp [num], by simp [ctx, e1, kid]⟩, e2⟩
    · exact ⟨by simp [ctx, e1, kid, bare, AIt.bare], ⟨false :: p, by simp [num], by simp [ctx, e1, kid]⟩, e2⟩

def tabOf : List (Nat × Trans) → Nat → Option Trans
  | [], _ => none
  | x :: l, n => bif Nat.beq x.1 n then some x.2 else tabOf l n
/-- The walk from place p. -/
def awalk (P : Program) (ct : Table) (tab : List (Nat × Trans)) (ret : Trans) (body : Code) (p : List Bool) (ρ : Env) (H : AH) : Prop :=
  match aplace body p with
  | some x => aexec P ct (tabOf tab) ret 100000 (num p) x.1 x.2 ρ H
  | none => False

def TabOk (w0 : World) (P : Program) (fn : Func) (N : Nat) (body : Code) (K : AV → AH → Prop) : List (Nat × Trans) → Prop
  | [] => True
  | x :: l => Pt w0 P fn N body K x.1 x.2 ∧ TabOk w0 P fn N body K l

section
variable {w0 : World} {P : Program} {fn : Func} {N : Nat} {K : AV → AH → Prop} {body : Code} {ct : Table}

theorem TabOk.at_ : ∀ {l : List (Nat × Trans)}, TabOk w0 P fn N body K l → ∀ n j, tabOf l n = some j → Pt w0 P fn N body K n j
  | [], _, n, j, h => by simp [tabOf] at h
  | x :: l, h, n, j, hj => by
    simp only [tabOf] at hj
    cases hb : Nat.beq x.1 n with
    | true =>
      rw [hb] at hj; simp only [cond_true, Option.some.injEq] at hj
      have := Nat.eq_of_beq_eq_true hb
      subst this; subst hj; exact h.1
    | false => rw [hb] at hj; exact TabOk.at_ h.2 n j hj

/-- A point, by the walk that begins at it. -/
theorem Pt.walk {tab : List (Nat × Trans)} {p : List Bool} {j : Trans} (hct : ct.Ok w0 P) (hm : P.follows .mixedOrders = true) (hb : codeOk N body = true) (ht : TabOk w0 P fn N body K tab)
    (h : ∀ ρ H, j ρ H → awalk P ct tab (ares P fn.results.toList K) body p ρ H) : Pt w0 P fn N body K (num p) j := by
  intro q c k hq hc ρ H hj
  have := num_inj _ _ hq
  subst this
  have h1 := h ρ H hj
  unfold awalk at h1
  split at h1
  · rename_i x hx
    obtain ⟨c', s⟩ := x
    obtain ⟨e1, e2⟩ := aplace_spec body q c' s hx
    rw [hc] at e1
    simp only [Option.some.injEq, Prod.mk.injEq] at e1
    obtain ⟨rfl, rfl⟩ := e1
    exact (walk_sound hct hm hb ht.at_ 100000).2 (num q) c s ρ H ⟨⟨q, rfl, hc⟩, e2⟩ h1
  · exact h1.elim
theorem Pt.walk_eq {tab : List (Nat × Trans)} {p : List Bool} {j : Trans} (hct : ct.Ok w0 P) (hm : P.follows .mixedOrders = true) (hb : codeOk N body = true) (ht : TabOk w0 P fn N body K tab)
    (h : j = awalk P ct tab (ares P fn.results.toList K) body p) : Pt w0 P fn N body K (num p) j := Pt.walk hct hm hb ht fun ρ H hj => by rw [h] at hj; exact hj
/-- A loop's head. 'st': the tmps that a pass looks at. -/
theorem Pt.loop {n : Nat} {st : Env → List AV} {b : (List AV → AH → Prop) → List AV → AH → Prop}
    (h : ∀ Y : List AV → AH → Prop, Pt w0 P fn N body K n (fun ρ H => Y (st ρ) H) → Pt w0 P fn N body K n (fun ρ H => b Y (st ρ) H)) : Pt w0 P fn N body K n (fun ρ H => LoopP b (st ρ) H) := by
  intro p c k hp hc ρ H hl
  have := hl (fun s H => ∀ ρ, st ρ = s → ASt w0 P fn N K (.code c :: k) ρ H) (fun Y s H hY hb ρ hs => by
    subst hs
    refine h Y ?_ p c k hp hc ρ H hb
    intro p' c' k' hp' hc' ρ' H' hy
    have e := num_inj p' p (by rw [hp', hp])
    subst e
    rw [hc] at hc'
    simp only [Option.some.injEq, Prod.mk.injEq] at hc'
    obtain ⟨rfl, rfl⟩ := hc'
    exact hY _ _ hy ρ' rfl)
  exact this ρ rfl

-- ---------------------------------------------------------------- a function
def env0 : List AV → Env
  | [], _ => nothing
  | a :: _, 0 => a
  | _ :: l, i + 1 => env0 l i
theorem env0urel {G : Gh} : ∀ (args : List AV) (vs : Array Value), vs.size = args.length → (∀ (i : Nat) (a : AV) (v : Value), args[i]? = some a → vs[i]? = some v → VRel G a v) → ∀ t, VRel G (env0 args t) (vs.getD t undef) := by
  have key : ∀ (args : List AV) (vs : List Value), vs.length = args.length → (∀ (i : Nat) (a : AV) (v : Value), args[i]? = some a → vs[i]? = some v → VRel G a v) → ∀ t, VRel G (env0 args t) (vs[t]?.getD undef) := by
    intro args
    induction args with
    | nil =>
      intro vs hs _ t
      have : vs = [] := List.eq_nil_of_length_eq_zero hs
      subst this
      exact .tup rfl fun i a v h => by simp at h
    | cons a args ih =>
      intro vs hs hv t
      match vs, hs with
      | v :: vs, hs =>
        cases t with
        | zero => exact hv 0 a v rfl rfl
        | succ t => exact ih vs (by simpa using hs) (fun i x y hx hy => hv (i + 1) x y (by simpa using hx) (by simpa using hy)) t
  intro args vs hs hv t
  have := key args vs.toList (by simpa using hs) (fun i a v ha hv' => hv i a v ha (by simpa using hv')) t
  simpa [Array.getD_eq_getD_getElem?] using this
theorem env0uargs : ∀ (args : List AV), (List.range args.length).map (env0 args) = args
  | [] => rfl
  | a :: l => by
    rw [List.length_cons, List.range_succ_eq_map, List.map_cons, List.map_map]
    show a :: _ = _
    rw [show (env0 (a :: l)) ∘ Nat.succ = env0 l from funext fun i => rfl, env0uargs l]

/-- A function, by the point at its beginning. -/
theorem sound_of_pt {f : FuncId} {p : AFn} {n : Nat} (hf : P.funcs[f]? = some fn) (hb : fn.body = some body) (hn : ∀ args H K, p args H K → args.length = n)
    (h : ∀ K, Pt w0 P fn fn.ntmps body K 1 (fun ρ H => p ((List.range n).map ρ) H K)) : Sound w0 P f p := by
  intro args H K hp G w vs hr hs hv
  have hl := hn args H K hp
  intro cs
  have hst : p ((List.range n).map (env0 args)) H K := by rw [← hl, env0uargs]; exact hp
  have hpt := h K [] body [] rfl rfl (env0 args) H hst
  let a : Act := { tmps := vs ++ Array.replicate (fn.ntmps - vs.size) undef, defers := [] }
  have he : ERelA G fn.ntmps (env0 args) a := by
    refine ⟨by simp [a]; omega, rfl, fun t => ?_⟩
    have h0 := env0urel args vs hs hv t
    have : a.tmps.getD t undef = vs.getD t undef := by
      simp only [a, Array.getD_eq_getD_getElem?, Array.getElem?_append]
      split
      · rfl
      · rename_i ht
        rw [Array.getElem?_eq_none (by omega : vs.size ≤ t)]
        by_cases h2 : t - vs.size < fn.ntmps - vs.size
        · simp [h2]
        · rw [Array.getElem?_eq_none (by simp; omega)]
    rw [this]; exact h0
  let b : Frame := { (default : Frame) with fn := f, kind := .normal }
  have henter : Frame.enter P f vs .normal = b.at a [.code body] := by
    simp [Frame.enter, Frame.at, hf, hb, b, a]
  obtain ⟨a', w', todo, v, h1, h2, h3, h4⟩ := hpt G a w hr he b cs
  rw [← henter] at h1
  exact ⟨.returned v, w', _, ⟨v, rfl, h4⟩, h1, rfl, rfl, h2, rfl, fn, hf, h3⟩
end

-- ---------------------------------------------------------------- tables
def tabL : List (Nat × AFn) → Tab
  | [], _ => none
  | x :: l, n => bif Nat.beq x.1 n then some x.2 else tabL l n
def FnOk (w0 : World) (P : Program) (f : FuncId) (g : AFn) : Prop := Enters P f ∧ Sound w0 P f g
theorem FnOk.call {w0 : World} {P : Program} {f : FuncId} {g : AFn} (h : FnOk w0 P f g) : CallOk w0 P f g := .of_enters h.1 h.2
/-- a function that the machine carries out itself -/
structure NatOk (w0 : World) (P : Program) (f : FuncId) (g : AFn) : Prop where
  call : CallOk w0 P f g
def TableOk (w0 : World) (P : Program) : List (Nat × AFn) → Prop
  | [] => True
  | x :: l => CallOk w0 P x.1 x.2 ∧ TableOk w0 P l
theorem TableOk.tab {w0 : World} {P : Program} : ∀ {l : List (Nat × AFn)}, TableOk w0 P l → (tabL l).Ok w0 P
  | [], _, f, g, h => by simp [tabL] at h
  | x :: l, h, f, g, hg => by
    simp only [tabL] at hg
    cases hb : Nat.beq x.1 f with
    | true =>
      rw [hb] at hg; simp only [cond_true, Option.some.injEq] at hg
      have := Nat.eq_of_beq_eq_true hb
      subst this; subst hg; exact h.1
    | false => rw [hb] at hg; exact TableOk.tab h.2 f g hg
def tableOf (l : List (Nat × AFn)) : Table := ⟨tabL l, fun _ => none⟩
theorem TableOk.ok {w0 : World} {P : Program} {l : List (Nat × AFn)} (h : TableOk w0 P l) : (tableOf l).Ok w0 P := ⟨h.tab, fun _ _ h => by cases h⟩
/-- a table with functions that come as values -/
def tableOr (ct : Tab) (l : List (Nat × AFn)) : Table := ⟨tabL l, ct⟩
theorem tableOr_ok {w0 : World} {P : Program} {ct : Tab} (hct : ct.Ok w0 P) {l : List (Nat × AFn)} (h : TableOk w0 P l) : (tableOr ct l).Ok w0 P := ⟨h.tab, hct⟩
/-- a function that calls itself -/
def FixP (b : AFn → AFn) : AFn := fun args H K => ∀ X : AFn, (∀ (Y : AFn) args H K, (∀ args H K, Y args H K → X args H K) → b Y args H K → X args H K) → X args H K
theorem FixP.fold {b : AFn → AFn} {args : List AV} {H : AH} {K : AV → AH → Prop} (h : b (FixP b) args H K) : FixP b args H K :=
  fun X hX => hX (FixP b) args H K (fun args H K h => h X hX) h
theorem FnOk.fix {w0 : World} {P : Program} {f : FuncId} {b : AFn → AFn} (he : Enters P f) (h : ∀ Y, FnOk w0 P f Y → FnOk w0 P f (b Y)) : FnOk w0 P f (FixP b) :=
  ⟨he, fun args H K hk => hk (fun args H K => ACalls w0 P f args H K) fun Y args H K hY hb => (h Y ⟨he, hY⟩).2 args H K hb⟩
theorem FnOk.mono {w0 : World} {P : Program} {f : FuncId} {g g' : AFn} (h : FnOk w0 P f g) (hg : ∀ args H K, g' args H K → g args H K) : FnOk w0 P f g' := ⟨h.1, h.2.mono hg⟩
end Go.Va
