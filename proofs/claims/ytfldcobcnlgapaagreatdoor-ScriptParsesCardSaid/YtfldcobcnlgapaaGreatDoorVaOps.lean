/-
  One operation of a region, over the plain view: what it asks of its continuation; held against the machine's step.
-/
import Derived.Test.YtfldcobcnlgapaaGreatDoorVaOwn
import Derived.Test.YtfldcobcnlgapaaGreatDoorVaCmp
set_option linter.unusedVariables false
set_option linter.unusedSimpArgs false
set_option linter.unnecessarySimpa false
namespace Go.Va
open Go.RowKit (Below)

abbrev Env := Nat → AV
def Env.put (ρ : Env) (d : Nat) (v : AV) : Env := fun i => bif Nat.beq i d then v else ρ i
def Env.putO (ρ : Env) (d : Option Nat) (v : AV) : Env := match d with
  | some d => ρ.put d v
  | none => ρ
def ev (ρ : Env) : Operand → AV
  | .tmp t => ρ t
  | .const v => aconst v
  | .global _ => .undef
  | .func f => .fn (.func f) [] []
def evO (ρ : Env) : Option Operand → Option AV
  | some x => some (ev ρ x)
  | none => none
def evs (ρ : Env) (l : List Operand) : List AV := l.map (ev ρ)
def evP (ρ : Env) (l : List (Nat × Operand)) : List (Nat × AV) := l.map fun x => (x.1, ev ρ x.2)

/-- what a skipped operation yields -/
def nothing : AV := .tup []

-- ---------------------------------------------------------------- calls
abbrev AFn := List AV → AH → (AV → AH → Prop) → Prop
/-- A call's machine run, over all worlds that fit. -/
def ACalls (w0 : World) (P : Program) (f : FuncId) (args : List AV) (H : AH) (K : AV → AH → Prop) : Prop :=
  ∀ (G : Gh) (w : World) (vs : Array Value), HRel w0 G H w → vs.size = args.length → (∀ (i : Nat) (a : AV) (v : Value), args[i]? = some a → vs[i]? = some v → VRel G a v) →
    Calls P f vs w fun e w' => ∃ v, e = .returned v ∧ Post w0 G H K v w'
def Sound (w0 : World) (P : Program) (f : FuncId) (g : AFn) : Prop := ∀ args H K, g args H K → ACalls w0 P f args H K
abbrev Tab := FuncId → Option AFn
/-- what is known of functions that are called by name, and through a value -/
structure Table where
  st : Tab
  dy : Tab
/-- A function that is entered when it is called. -/
def Enters (P : Program) (f : FuncId) : Prop := ∃ fn, P.funcs[f]? = some fn ∧ (fn.name == "runtime.NumGoroutine") = false ∧ fn.body.isNone = false
/-- A call of f, entered or carried out by the machine itself. -/
def CallOk (w0 : World) (P : Program) (f : FuncId) (g : AFn) : Prop :=
  ∀ args H K, g args H K → ∀ (G : Gh) (w : World) (vs : Array Value), HRel w0 G H w → vs.size = args.length → (∀ (i : Nat) (a : AV) (v : Value), args[i]? = some a → vs[i]? = some v → VRel G a v) →
    OpOk P ((callFunc f vs).run P w) (Post w0 G H K)
def Tab.Ok (w0 : World) (P : Program) (ct : Tab) : Prop := ∀ f g, ct f = some g → CallOk w0 P f g
def Table.Ok (w0 : World) (P : Program) (ct : Table) : Prop := ct.st.Ok w0 P ∧ ct.dy.Ok w0 P

theorem Sound.mono {w0 : World} {P : Program} {f : FuncId} {g g' : AFn} (h : Sound w0 P f g) (hg : ∀ args H K, g' args H K → g args H K) : Sound w0 P f g' := fun args H K k => h args H K (hg args H K k)
theorem ACalls.mono {w0 : World} {P : Program} {f : FuncId} {args : List AV} {H : AH} {K K' : AV → AH → Prop} (h : ACalls w0 P f args H K) (hk : ∀ v H', K v H' → K' v H') : ACalls w0 P f args H K' :=
  fun G w vs hr hs hv => Calls.mono (h G w vs hr hs hv) fun e w' ⟨v, he, hp⟩ => ⟨v, he, hp.mono hk⟩

theorem run_callFunc {P : Program} {f : FuncId} (he : Enters P f) (args : Array Value) (w : World) : (callFunc f args).run P w = .ok (.enter f args) w := by
  obtain ⟨fn, h1, h2, h3⟩ := he
  have h4 : fn.body ≠ none := by intro e; simp [e] at h3
  have h5 : fn.name ≠ "runtime.NumGoroutine" := by simpa using h2
  simp [callFunc, h1, h4, h5]
theorem CallOk.of_enters {w0 : World} {P : Program} {f : FuncId} {g : AFn} (he : Enters P f) (hs : Sound w0 P f g) : CallOk w0 P f g := by
  intro args H K h G w vs hr hsz hv
  rw [run_callFunc he]
  exact hs args H K h G w vs hr hsz hv

-- ---------------------------------------------------------------- one operation
/-- an array's zero, where all of it is known -/
def zeroCells' (P : Program) (t : TypeId) : Option (List AV) := (azero P t).bind fun z => if z.known then some z.cells else none
def boxCells (x : AV) : Option (List AV) := if x.known then some x.cells else none
def aiface (P : Program) (t : TypeId) (x : AV) : Option AV := match P.underlying t with
  | some (.interface _) => none
  | some _ => some (.iface t x)
  | none => none
def aextract (t : AV) (i : Nat) : Option AV := match t with
  | .tup vs => vs[i]?
  | _ => none
def acv (P : Program) (src dst : TypeId) (x : AV) : Option AV :=
  match P.underlying src, P.underlying dst with
  | some .string, some (.slice e) => match P.underlying e with
    | some (.int .u8) => strBytes x
    | _ => none
  | some (.slice e), some .string => match P.underlying e with
    | some (.int .u8) => bytesStr x
    | _ => none
  | _, _ => aconv P src dst x
/-- An append: onto a row that is never written again, or onto an object of its own. -/
def appK (sz by_ : Nat) (s x : AV) (H : AH) (K : AV → AH → Prop) : Prop := (bnd (appd sz by_ s x H) fun r => K r.1 r.2) ∨ appo sz by_ s (ofl sz x H) H K
def appZ (sz by_ : Nat) (z : List AV) (s x : AV) (H : AH) (K : AV → AH → Prop) : Prop := appo sz by_ s (zfl by_ z x) H K
def aappend (P : Program) (ts tx : TypeId) (s x : AV) (H : AH) (K : AV → AH → Prop) : Prop :=
  match P.underlying ts, P.underlying tx with
  | some (.slice e), some (.slice _) => if elemOk P e then appK (P.cellsOf e) (P.bytesOf e) s x H K else False
  | some (.slice e), some .string => if elemOk P e then appK (P.cellsOf e) (P.bytesOf e) s x H K else False
  | some (.slice e), some (.int _) => if elemOk P e then (match azero P e with
    | some z => appZ (P.cellsOf e) (P.bytesOf e) z.cells s x H K
    | none => False) else False
  | _, _ => False
def abuiltin (P : Program) (b : Builtin) (ts : List TypeId) (args : List AV) (H : AH) (K : AV → AH → Prop) : Prop :=
  match b, ts, args with
  | .len, [t], [x] => bnd (alen P t x H) fun v => K v H
  | .append, [ts, tx], [s, x] => aappend P ts tx s x H K
  | .cap, [t], [x] => bnd (acap P t x) fun v => K v H
  | .copy, [t, _], [d, s] => bnd (acopy P t d s H) fun r => K r.1 r.2
  | .clear, [t], [x] => bnd (aclear P t x H) fun H' => K nothing H'
  | .min, _, [x, y] => bnd (amin2 x y) fun v => K v H
  | .max, _, [x, y] => bnd (amax2 x y) fun v => K v H
  | .real, _, [x] => bnd (areal x) fun v => K v H
  | .imag, _, [x] => bnd (aimag x) fun v => K v H
  | .complex, _, [x, y] => bnd (acplx x y) fun v => K v H
  | .delete, [t, _], [m, k] => bnd (amdel P t m k H) fun H' => K nothing H'
  | _, _, _ => False
def isFn : Operand → Bool
  | .func _ => true
  | _ => false
def acallv (ct : Tab) (f : AV) (args : List AV) (H : AH) (K : AV → AH → Prop) : Prop :=
  match f with
  | .fn (.func g) fs cs => bnd (ct g) fun h => h (fs ++ args ++ cs) H K
  | _ => False
def aop (P : Program) (ct : Table) (o : Op) (ρ : Env) (H : AH) (K : AV → AH → Prop) : Prop :=
  match o with
  | .move x => K (ev ρ x) H
  | .assign x => K (ev ρ x) H
  | .pick c a b => bnd (pickV (ev ρ c) (ev ρ a) (ev ρ b)) fun v => K v H
  | .alloc e => bnd (zeroCells' P e) fun z => K (.ptr H.next 0) (H.add (.cells z))
  | .box _ x => bnd (boxCells (ev ρ x)) fun z => K (.ptr H.next 0) (H.add (.cells z))
  | .build t ps => bnd (abuild P t (evP ρ ps.toList)) fun v => K v H
  | .buildSlice t n ps => bnd (abuildSl P t n (evP ρ ps.toList)) fun v => K v H
  | .load t a => bnd (aload P t (ev ρ a) H) fun v => K v H
  | .store t a x => bnd (astore P t (ev ρ a) (ev ρ x) H) fun H' => K nothing H'
  | .nilCheck x => bnd (nilck (ev ρ x)) fun v => K v H
  | .binOp op t x y _ => bnd (abino P op t (isNilC y) (ev ρ x) (ev ρ y)) fun v => K v H
  | .unOp op _ x => bnd (aun op (ev ρ x)) fun v => K v H
  | .convert s d x => bnd (acv P s d (ev ρ x)) fun v => K v H
  | .makeInterface t x => bnd (aiface P t (ev ρ x)) fun v => K v H
  | .makeFunc fn fs cs => K (.fn fn (evs ρ fs.toList) (evs ρ cs.toList)) H
  | .makeSlice t l c => bnd (amake P t (ev ρ l) (ev ρ c) H) fun r => K r.1 r.2
  | .makeMap _ none => K (.map H.next) (H.add (.map [] 0))
  | .slice t x lo hi mx => bnd (aslice P t (ev ρ x) (evO ρ lo) (evO ρ hi) (evO ρ mx)) fun v => K v H
  | .fieldAddr s x f => bnd (afield P s f (ev ρ x)) fun v => K v H
  | .field t x f => bnd (afld P t f (ev ρ x)) fun v => K v H
  | .indexAddr t x i => bnd (aidxA P t (ev ρ x) (ev ρ i)) fun v => K v H
  | .index t x i => bnd (aidx P t (ev ρ x) (ev ρ i)) fun v => K v H
  | .lookup t x i ok => bnd (alookup P t (ev ρ x) (ev ρ i) ok H) fun v => K v H
  | .mapUpdate t m k x => bnd (amput P t (ev ρ m) (ev ρ k) (ev ρ x) H) fun H' => K nothing H'
  | .insert t m k x => bnd (amput P t (ev ρ m) (ev ρ k) (ev ρ x) H) fun H' => K nothing H'
  | .range t x => bnd (arange P t (ev ρ x) H) fun r => K r.1 r.2
  | .next it s => if s then bnd (nextStr (ev ρ it) H) fun r => K r.1 r.2 else nextMap (ev ρ it) H K
  | .entry it => bnd (entryOf (ev ρ it) H) fun v => K v H
  | .extract t i => bnd (aextract (ev ρ t) i) fun v => K v H
  | .call c => match c.callee with
    | .builtin b => abuiltin P b c.argTypes.toList (evs ρ c.args.toList) H K
    | .value f => acallv (bif isFn f then ct.st else ct.dy) (ev ρ f) (evs ρ c.args.toList) H K
    | .invoke _ _ => False
  | _ => False

/-- The tmps of a frame, seen plainly. -/
structure ERelA (G : Gh) (N : Nat) (ρ : Env) (a : Act) : Prop where
  size : N ≤ a.tmps.size
  defers : a.defers = []
  val : ∀ t, VRel G (ρ t) (a.tmps.getD t undef)

section
variable {P : Program} {w0 w : World} {G : Gh} {H : AH} {N : Nat} {ρ : Env} {a : Act}

theorem ERelA.mono {n : Nat} {G' : Gh} (h : ERelA G N ρ a) (hle : Gh.Le n G G') : ERelA G' N ρ a := ⟨h.size, h.defers, fun t => (h.val t).mono hle⟩
theorem ERelA.ev (h : ERelA G N ρ a) (x : Operand) : VRel G (ev ρ x) (a.eval x) := by
  cases x with
  | tmp t => exact h.val t
  | const v => exact VRel.aconst G v
  | global g => exact .undef _
  | func f => exact .fn rfl rfl (fun i a v h => by simp at h) (fun i a v h => by simp at h)
theorem ERelA.put (h : ERelA G N ρ a) {d : Nat} (hd : d < N) {x : AV} {v : Value} (hx : VRel G x v) : ERelA G N (ρ.put d x) (a.put (some d) v) := by
  have hs := h.size
  refine ⟨by simp [Act.put]; exact hs, h.defers, fun t => ?_⟩
  simp only [Env.put, Act.put]
  by_cases e : t = d
  · subst e
    rw [Nat.beq_refl, cond_true]
    have : t < a.tmps.size := by omega
    simp [Array.getD, this]
    exact hx
  · have hb : Nat.beq t d = false := by
      cases hb : Nat.beq t d with
      | false => rfl
      | true => exact absurd (Nat.eq_of_beq_eq_true hb) e
    rw [hb, cond_false]
    have := h.val t
    simp only [Array.getD_eq_getD_getElem?] at this ⊢
    rw [Array.getElem?_setIfInBounds_ne (Ne.symm e)]
    exact this
theorem ERelA.putO (h : ERelA G N ρ a) {d : Option Nat} (hd : ∀ x, d = some x → x < N) {x : AV} {v : Value} (hx : VRel G x v) : ERelA G N (ρ.putO d x) (a.put d v) := by
  cases d with
  | none => exact h
  | some d => exact h.put (hd d rfl) hx

theorem ERelA.evs (h : ERelA G N ρ a) (l : Array Operand) : (l.map a.eval).size = (evs ρ l.toList).length ∧ ∀ (i : Nat) (x : AV) (v : Value), (Va.evs ρ l.toList)[i]? = some x → (l.map a.eval)[i]? = some v → VRel G x v := by
  refine ⟨by simp [Va.evs], fun i x v hx hv => ?_⟩
  simp only [Va.evs, List.getElem?_map, Option.map_eq_some_iff, Array.getElem?_map, Array.getElem?_toList] at hx hv
  obtain ⟨o, ho, rfl⟩ := hx
  obtain ⟨o', ho', rfl⟩ := hv
  rw [ho] at ho'; cases ho'
  exact h.ev o
theorem ERelA.evP (h : ERelA G N ρ a) (l : Array (Nat × Operand)) : (evP ρ l.toList).length = (l.toList.map fun x => (x.1, a.eval x.2)).length ∧
    ∀ (i : Nat) p q, (Va.evP ρ l.toList)[i]? = some p → (l.toList.map fun x => (x.1, a.eval x.2))[i]? = some q → p.1 = q.1 ∧ VRel G p.2 q.2 := by
  refine ⟨by simp [Va.evP], fun i p q hp hq => ?_⟩
  simp only [Va.evP, List.getElem?_map, Option.map_eq_some_iff] at hp hq
  obtain ⟨o, ho, rfl⟩ := hp
  obtain ⟨o', ho', rfl⟩ := hq
  rw [ho] at ho'; cases ho'
  exact ⟨rfl, h.ev _⟩
theorem ERelA.evO (h : ERelA G N ρ a) (o : Option Operand) : ORelV G (evO ρ o) (o.map a.eval) := by
  cases o with
  | none => exact .none
  | some x => exact .some (h.ev x)
end
end Go.Va
