/-
  Regions whose order is drawn, over the plain view: what is asked in one order, with what may come late looked at again, is asked in all.
-/
import Derived.Test.YtfldcobcnlgapaaGreatDoorVaRun
set_option linter.unusedVariables false
set_option linter.unusedSimpArgs false
set_option linter.unnecessarySimpa false
namespace Go.Va
open Go.RowKit (Below)

-- ---------------------------------------------------------------- operations that leave memory as it is
def aqBuiltin (P : Program) (b : Builtin) (ts : List TypeId) (args : List AV) (H : AH) : Option AV :=
  match b, ts, args with
  | .len, [t], [x] => alen P t x H
  | .min, _, [x, y] => amin2 x y
  | .max, _, [x, y] => amax2 x y
  | .real, _, [x] => areal x
  | .imag, _, [x] => aimag x
  | .complex, _, [x, y] => acplx x y
  | _, _, _ => none
def aq (P : Program) (o : Op) (ρ : Env) (H : AH) : Option AV :=
  match o with
  | .move x => some (ev ρ x)
  | .assign x => some (ev ρ x)
  | .pick c a b => pickV (ev ρ c) (ev ρ a) (ev ρ b)
  | .build t ps => abuild P t (evP ρ ps.toList)
  | .buildSlice t n ps => abuildSl P t n (evP ρ ps.toList)
  | .load t a => aload P t (ev ρ a) H
  | .nilCheck x => nilck (ev ρ x)
  | .binOp op t x y _ => abino P op t (isNilC y) (ev ρ x) (ev ρ y)
  | .unOp op _ x => aun op (ev ρ x)
  | .convert s d x => acv P s d (ev ρ x)
  | .makeInterface t x => aiface P t (ev ρ x)
  | .makeFunc fn fs cs => some (.fn fn (evs ρ fs.toList) (evs ρ cs.toList))
  | .slice t x lo hi mx => aslice P t (ev ρ x) (evO ρ lo) (evO ρ hi) (evO ρ mx)
  | .fieldAddr s x f => afield P s f (ev ρ x)
  | .field t x f => afld P t f (ev ρ x)
  | .indexAddr t x i => aidxA P t (ev ρ x) (ev ρ i)
  | .index t x i => aidx P t (ev ρ x) (ev ρ i)
  | .lookup t x i ok => alookup P t (ev ρ x) (ev ρ i) ok H
  | .entry it => entryOf (ev ρ it) H
  | .extract t i => aextract (ev ρ t) i
  | .call c => match c.callee with
    | .builtin b => aqBuiltin P b c.argTypes.toList (evs ρ c.args.toList) H
    | _ => none
  | _ => none
/-- may it be taken at any time, but for what is written meanwhile? -/
def isQ : Op → Bool
  | .move _ | .assign _ | .pick _ _ _ | .build _ _ | .buildSlice _ _ _ | .load _ _ | .nilCheck _ | .binOp _ _ _ _ _ | .unOp _ _ _ | .convert _ _ _ | .makeInterface _ _ | .makeFunc _ _ _
  | .slice _ _ _ _ _ | .fieldAddr _ _ _ | .field _ _ _ | .indexAddr _ _ _ | .index _ _ _ | .lookup _ _ _ _ | .entry _ | .extract _ _ => true
  | .call c => match c.callee with
    | .builtin .len | .builtin .min | .builtin .max | .builtin .real | .builtin .imag | .builtin .complex => true
    | _ => false
  | _ => false
/-- does it look at memory? -/
def looksH : Op → Bool
  | .load _ _ | .lookup _ _ _ _ | .entry _ => true
  | .call c => match c.callee with
    | .builtin .len => true
    | _ => false
  | _ => false

section
variable {P : Program} {ct : Table} {ρ ρ' : Env} {H H' : AH}

theorem aqBuiltin_at {b : Builtin} {ts : List TypeId} {args : List AV} {v : AV} (h : aqBuiltin P b ts args H = some v) {K : AV → AH → Prop} (k : K v H) : abuiltin P b ts args H K := by
  unfold aqBuiltin at h
  split at h <;> first | (cases h; done) | (unfold abuiltin; simp only [h, bnd]; exact k)
theorem aq_at {o : Op} {v : AV} (h : aq P o ρ H = some v) {K : AV → AH → Prop} (k : K v H) : aop P ct o ρ H K := by
  unfold aq at h
  split at h
  all_goals first
    | (cases h; done)
    | (cases h; exact k)
    | (unfold aop; simp only [h, bnd]; exact k)
    | skip
  rename_i c
  unfold aop
  simp only
  split at h
  · rename_i b hb
    rw [hb]
    exact aqBuiltin_at h k
  · cases h

theorem ev_congr {o : Op} (h : ∀ t, .tmp t ∈ o.operands → ρ t = ρ' t) : ∀ x ∈ o.operands, ev ρ x = ev ρ' x := by
  intro x hx
  cases x with
  | tmp t => exact h t hx
  | const v => rfl
  | global g => rfl
  | func f => rfl
theorem evs_congr {l : Array Operand} (h : ∀ x ∈ l, ev ρ x = ev ρ' x) : evs ρ l.toList = evs ρ' l.toList := by
  unfold evs
  exact List.map_congr_left fun x hx => h x (by simpa using hx)
theorem evP_congr {l : Array (Nat × Operand)} (h : ∀ x ∈ (l.toList.map (·.2)), ev ρ x = ev ρ' x) : evP ρ l.toList = evP ρ' l.toList := by
  unfold evP
  exact List.map_congr_left fun x hx => by rw [h x.2 (List.mem_map_of_mem hx)]
theorem evO_congr {l : Option Operand} (h : ∀ x, l = some x → ev ρ x = ev ρ' x) : evO ρ l = evO ρ' l := by
  cases l with
  | none => rfl
  | some x => simp [evO, h x rfl]

theorem aop_congr {o : Op} (h : ∀ x ∈ o.operands, ev ρ x = ev ρ' x) (K : AV → AH → Prop) : aop P ct o ρ H K = aop P ct o ρ' H K := by
  cases o
  case build t ps => simp only [aop]; rw [evP_congr (by simpa [Op.operands] using h)]
  case buildSlice t n ps => simp only [aop]; rw [evP_congr (by simpa [Op.operands] using h)]
  case makeFunc fn fs cs =>
    simp only [aop]
    rw [evs_congr (l := fs) fun x hx => h x (by simp [Op.operands, hx]), evs_congr (l := cs) fun x hx => h x (by simp [Op.operands, hx])]
  case makeMap t r => cases r <;> rfl
  case slice t x lo hi mx =>
    simp only [aop]
    rw [h x (by simp [Op.operands]), evO_congr (l := lo) fun x hx => h x (by simp [Op.operands, hx]), evO_congr (l := hi) fun x hx => h x (by simp [Op.operands, hx]), evO_congr (l := mx) fun x hx => h x (by simp [Op.operands, hx])]
  case call c =>
    simp only [aop]
    have ha : evs ρ c.args.toList = evs ρ' c.args.toList := evs_congr fun x hx => h x (by simp [Op.operands, Call.operands, hx])
    rw [ha]
    cases hc : c.callee with
    | builtin b => rfl
    | value f => simp only; rw [h f (by simp [Op.operands, Call.operands, hc])]
    | invoke r m => rfl
  all_goals (simp only [aop]; try simp only [Op.operands, List.mem_toArray, List.mem_cons, Array.mem_def, List.not_mem_nil, or_false, forall_eq_or_imp, forall_eq] at h; try simp only [h])
theorem aq_congr {o : Op} (h : ∀ x ∈ o.operands, ev ρ x = ev ρ' x) : aq P o ρ H = aq P o ρ' H := by
  cases o
  case build t ps => simp only [aq]; rw [evP_congr (by simpa [Op.operands] using h)]
  case buildSlice t n ps => simp only [aq]; rw [evP_congr (by simpa [Op.operands] using h)]
  case makeFunc fn fs cs =>
    simp only [aq]
    rw [evs_congr (l := fs) fun x hx => h x (by simp [Op.operands, hx]), evs_congr (l := cs) fun x hx => h x (by simp [Op.operands, hx])]
  case slice t x lo hi mx =>
    simp only [aq]
    rw [h x (by simp [Op.operands]), evO_congr (l := lo) fun x hx => h x (by simp [Op.operands, hx]), evO_congr (l := hi) fun x hx => h x (by simp [Op.operands, hx]), evO_congr (l := mx) fun x hx => h x (by simp [Op.operands, hx])]
  case call c =>
    simp only [aq]
    have ha : evs ρ c.args.toList = evs ρ' c.args.toList := evs_congr fun x hx => h x (by simp [Op.operands, Call.operands, hx])
    rw [ha]
  all_goals (simp only [aq]; try simp only [Op.operands, List.mem_toArray, List.mem_cons, Array.mem_def, List.not_mem_nil, or_false, forall_eq_or_imp, forall_eq] at h; try simp only [h])
theorem aq_free {o : Op} (h : looksH o = false) : aq P o ρ H = aq P o ρ H' := by
  cases o <;> first | rfl | (simp [looksH] at h; done) | skip
  rename_i c
  simp only [aq]
  cases hc : c.callee with
  | builtin b =>
    simp only
    have : b ≠ .len := by intro e; subst e; simp [looksH, hc] at h
    unfold aqBuiltin
    split <;> first | rfl | (rename_i e; exact absurd e this) | (exact absurd rfl this) | skip
    all_goals (split <;> first | rfl | skip)
  | value f => rfl
  | invoke r m => rfl
end
end Go.Va
