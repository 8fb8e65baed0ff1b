/-
  The plan of a region whose order is drawn: what comes ahead of what, in which stages; what the plan asks.
-/
import Derived.Test.YtfldcobcnlgapaaGreatDoorVaDraw
set_option linter.unusedVariables false
set_option linter.unusedSimpArgs false
set_option linter.unnecessarySimpa false
namespace Go.Va
open Go.RowKit (Below)

def memN (l : List Nat) (n : Nat) : Bool := match l with
  | [] => false
  | x :: r => Nat.beq x n || memN r n
theorem memN_iff : ∀ (l : List Nat) (n : Nat), memN l n = true ↔ n ∈ l
  | [], n => by simp [memN]
  | x :: r, n => by
    simp only [memN, Bool.or_eq_true, List.mem_cons, memN_iff r n, Nat.beq_eq]
    constructor
    · rintro (h | h); exact .inl h.symm; exact .inr h
    · rintro (h | h); exact .inl h.symm; exact .inr h
def addN (l : List Nat) (n : Nat) : List Nat := bif memN l n then l else n :: l
/-- the operations that must be done ahead of o -/
def binders (o : Oper) : List Nat := o.after.toList.filterMap fun e => if Region.binds .any e then some e.on else none
def nth (A : List (List Nat)) (i : Nat) : List Nat := (A[i]?).getD []
def ancs (ops : List Oper) : List (List Nat) :=
  ops.foldl (fun acc o => acc ++ [(binders o).foldl (fun l j => (nth acc j).foldl addN (addN l j)) []]) []

structure Plan where
  anc : List (List Nat)
  qs : List (List Nat)
  es : List (Nat × List Nat)
def isQat (ops : Array Oper) (i : Nat) : Bool := match ops[i]? with
  | some o => isQ o.op
  | none => false
def looksHat (ops : Array Oper) (i : Nat) : Bool := match ops[i]? with
  | some o => looksH o.op
  | none => false
def plan (ops : Array Oper) : Plan :=
  let n := ops.size
  let A := ancs ops.toList
  let l := List.range n
  let es := l.filter fun i => !isQat ops i
  let st := fun i => ((nth A i).filter fun j => !isQat ops j).length
  let qs := (List.range (es.length + 1)).map fun s => l.filter fun i => isQat ops i && Nat.beq (st i) s
  let late := fun e => l.filter fun i => isQat ops i && looksHat ops i && (Nat.ble (st i) (st e)) && !memN (nth A e) i
  { anc := A, qs := qs, es := es.map fun e => (e, late e) }

/-- the order of the plan -/
def order : List (List Nat) → List (Nat × List Nat) → List Nat
  | q :: qs, e :: es => q ++ e.1 :: order qs es
  | q :: _, [] => q
  | [], _ => []

-- ---------------------------------------------------------------- what is asked
section
variable (P : Program) (ct : Table) (ops : Array Oper)
def aqK : List Nat → Env → AH → (Env → Prop) → Prop
  | [], ρ, _, k => k ρ
  | i :: r, ρ, H, k => match ops[i]? with
    | some o => aguard (awant ops ρ o.guard) (fun k' => bnd (aq P o.op ρ H) fun v => k' v H) H fun v _ => aqK r (ρ.putO o.dst v) H k
    | none => False
def dval (ρ : Env) (o : Oper) : AV := match o.dst with
  | some d => ρ d
  | none => nothing
def wantE (c : Option Bool) (p : Prop) : Prop := match c with
  | some true => p
  | some false => True
  | none => False
/-- does it yield the same, later? -/
def again (ρ : Env) (H : AH) (i : Nat) : Prop := match ops[i]? with
  | some o => wantE (awant ops ρ o.guard) (aq P o.op ρ H = some (dval ρ o))
  | none => False
def agains (ρ : Env) (H : AH) : List Nat → Prop → Prop
  | [], p => p
  | i :: r, p => again P ops ρ H i ∧ agains ρ H r p
def adraw (K : Env → AH → Prop) : List (List Nat) → List (Nat × List Nat) → Env → AH → Prop
  | q :: _, [], ρ, H => aqK P ops q ρ H fun ρ' => K ρ' H
  | q :: qs, e :: es, ρ, H => aqK P ops q ρ H fun ρ1 => match ops[e.1]? with
    | some o => aguard (awant ops ρ1 o.guard) (fun k => aop P ct o.op ρ1 H k) H fun v H' => agains P ops ρ1 H' e.2 (adraw K qs es (ρ1.putO o.dst v) H')
    | none => False
  | [], _, _, _ => False
end

-- ---------------------------------------------------------------- what the plan is held to
def dst (ops : Array Oper) (i : Nat) : Option Nat := (ops[i]?).bind (·.dst)
def hasDst (ops : Array Oper) (t : Nat) (i : Nat) : Bool := match dst ops i with
  | some d => Nat.beq d t
  | none => false
def looksOk (ops : Array Oper) (A : List (List Nat)) : Bool :=
  (List.range ops.size).all fun i => match ops[i]? with
    | some o => (o.looksAt ops).all fun t => (List.range ops.size).all fun j => Nat.beq i j || !hasDst ops t j || memN (nth A i) j || memN (nth A j) i
    | none => true
def dstsOk (ops : Array Oper) : Bool :=
  (List.range ops.size).all fun i => match dst ops i with
    | some t => (List.range ops.size).all fun j => Nat.beq i j || !hasDst ops t j
    | none => true
/-- an edge that binds is in the table, and the table has no more -/
def ancOk (ops : Array Oper) (A : List (List Nat)) : Bool :=
  (List.range ops.size).all fun i => match ops[i]? with
    | some o => (binders o).all (fun j => memN (nth A i) j) && (nth A i).all fun j => Nat.blt j i && (binders o).any fun b => Nat.beq b j || memN (nth A b) j
    | none => true
def behind (A : List (List Nat)) (p : Option Nat) (i : Nat) : Bool := match p with
  | some e => memN (nth A i) e
  | none => true
def quietsOk (ops : Array Oper) (A : List (List Nat)) (p : Option Nat) : List Nat → List Nat → Bool
  | _, [] => true
  | done, i :: r => (nth A i).all (memN done) && !memN done i && isQat ops i && behind A p i && quietsOk ops A p (i :: done) r
def revA : List Nat → List Nat → List Nat
  | [], l => l
  | i :: r, l => revA r (i :: l)
/-- what looks at memory and may come behind an effect is named there, and looks at nothing that is written over -/
def lateOk (ops : Array Oper) (A : List (List Nat)) (e : Nat × List Nat) (i : Nat) : Bool :=
  !looksHat ops i || memN (nth A e.1) i || (memN e.2 i && match ops[i]? with
    | some o => (o.looksAt ops).all fun t => (List.range ops.size).all fun j => !hasDst ops t j || memN (nth A i) j
    | none => false)
def effOk (ops : Array Oper) (A : List (List Nat)) (p : Option Nat) (done : List Nat) (e : Nat × List Nat) : Bool :=
  (nth A e.1).all (memN done) && !memN done e.1 && !isQat ops e.1 && behind A p e.1 && done.all (lateOk ops A e)
def goOk (ops : Array Oper) (A : List (List Nat)) : Option Nat → List Nat → List (List Nat) → List (Nat × List Nat) → Bool
  | p, done, [q], [] => quietsOk ops A p done q
  | p, done, q :: qs, e :: es => quietsOk ops A p done q && effOk ops A p (revA q done) e && goOk ops A (some e.1) (e.1 :: revA q done) qs es
  | _, _, _, _ => false
def planOk (ops : Array Oper) (p : Plan) : Bool :=
  looksOk ops p.anc && dstsOk ops && ancOk ops p.anc && goOk ops p.anc none [] p.qs p.es &&
  (List.range ops.size).all (memN (order p.qs p.es)) && (order p.qs p.es).all fun i => Nat.blt i ops.size
end Go.Va
