/-
  Walks through a function's code over the plain view, from one point to the next; that such a walk is the machine's.
-/
import Derived.Test.YtfldcobcnlgapaaGreatDoorVaStack
set_option linter.unusedVariables false
set_option linter.unusedSimpArgs false
set_option linter.unnecessarySimpa false
namespace Go.Va
open Go.RowKit (Below)

-- ---------------------------------------------------------------- places in code
/-- From a piece of code, with what is to be done behind it, to a part of it. -/
def kid (x : Code × List Item) (r : Bool) : Option (Code × List Item) :=
  match x.1, r with
  | .seq a b, false => some (a, .code b :: x.2)
  | .seq _ b, true => some (b, x.2)
  | .cond _ a _, false => some (a, x.2)
  | .cond _ _ b, true => some (b, x.2)
  | .block id c, false => some (c, .inBlock id :: x.2)
  | .loop c, false => some (c, .inLoop c :: x.2)
  | .scope c, false => some (c, .inScope c :: x.2)
  | _, _ => none
/-- A place: its last turn comes first. -/
def ctx (body : Code) : List Bool → Option (Code × List Item)
  | [] => some (body, [])
  | r :: p => (ctx body p).bind fun x => kid x r
def num : List Bool → Nat
  | [] => 1
  | false :: p => 2 * num p
  | true :: p => 2 * num p + 1
theorem num_pos : ∀ p, 0 < num p
  | [] => by simp [num]
  | false :: p => by have := num_pos p; simp only [num]; omega
  | true :: p => by simp only [num]; omega
theorem num_inj : ∀ p q, num p = num q → p = q
  | [], [], _ => rfl
  | [], false :: q, h => by have := num_pos q; simp only [num] at h; omega
  | [], true :: q, h => by have := num_pos q; simp only [num] at h; omega
  | false :: p, [], h => by have := num_pos p; simp only [num] at h; omega
  | true :: p, [], h => by have := num_pos p; simp only [num] at h; omega
  | false :: p, false :: q, h => by simp only [num] at h; rw [num_inj p q (by omega)]
  | true :: p, true :: q, h => by simp only [num] at h; rw [num_inj p q (by omega)]
  | false :: p, true :: q, h => by simp only [num] at h; omega
  | true :: p, false :: q, h => by simp only [num] at h; omega

-- ---------------------------------------------------------------- walks
inductive AIt where
  | code (n : Nat) (c : Code)
  | inBlock (id : Nat)
  | inLoop (n : Nat) (c : Code)
  | inScope (n : Nat) (c : Code)
def AIt.bare : AIt → Item
  | .code _ c => .code c
  | .inBlock id => .inBlock id
  | .inLoop _ c => .inLoop c
  | .inScope _ c => .inScope c
def bare (s : List AIt) : List Item := s.map AIt.bare

abbrev Trans := Env → AH → Prop
def aexit (id : Nat) : List AIt → Option (List AIt)
  | .inBlock id' :: k => if id == id' then some k else aexit id k
  | _ :: k => aexit id k
  | [] => none
/-- the number of the place of a label -/
def alabel (l : Nat) : Nat → Code → Option Nat
  | n, .seq a b => (alabel l (2 * n) a).or (alabel l (2 * n + 1) b)
  | n, .label l' => if l' == l then some n else none
  | _, _ => none
def agoto (l : Nat) : List AIt → Option Nat
  | .inScope n c :: k => (alabel l n c).or (agoto l k)
  | _ :: k => agoto l k
  | [] => none

def onTab (j : Option Trans) (ρ : Env) (H : AH) (d : Prop) : Prop := match j with
  | some j => j ρ H
  | none => d
def must (j : Option Trans) (ρ : Env) (H : AH) : Prop := match j with
  | some j => j ρ H
  | none => False
def branch (c : AV) (p q : Prop) : Prop := match c with
  | .bool b => if b then p else q
  | _ => False

section
variable (P : Program) (ct : Table) (tab : Nat → Option Trans) (ret : Trans)
mutual
def arun : Nat → List AIt → Trans
  | 0, _, _, _ => False
  | f + 1, s, ρ, H =>
    match s with
    | [] => ret ρ H
    | .code n c :: k => onTab (tab n) ρ H (aexec f n c k ρ H)
    | .inBlock _ :: k => arun f k ρ H
    | .inScope _ _ :: k => arun f k ρ H
    | .inLoop n c :: k => onTab (tab n) ρ H (aexec f n c (.inLoop n c :: k) ρ H)
def aexec : Nat → Nat → Code → List AIt → Trans
  | 0, _, _, _, _, _ => False
  | f + 1, n, c, k, ρ, H =>
    match c with
    | .skip => arun f k ρ H
    | .label _ => arun f k ρ H
    | .region _ ops false => aops P ct ops (List.range ops.size) ρ H fun ρ' H' => arun f k ρ' H'
    | .region _ ops true => match planOk ops (plan ops) with
      | true => adraw P ct ops (fun ρ' H' => arun f k ρ' H') (plan ops).qs (plan ops).es ρ H
      | false => adrawD P ct ops (ancs ops.toList) (fun ρ' H' => arun f k ρ' H') (ops.size + 1) [] ρ H
    | .seq a b => arun f (.code (2 * n) a :: .code (2 * n + 1) b :: k) ρ H
    | .cond x a b => branch (ev ρ x) (arun f (.code (2 * n) a :: k) ρ H) (arun f (.code (2 * n + 1) b :: k) ρ H)
    | .block id c => arun f (.code (2 * n) c :: .inBlock id :: k) ρ H
    | .loop c => arun f (.code (2 * n) c :: .inLoop (2 * n) c :: k) ρ H
    | .scope c => arun f (.code (2 * n) c :: .inScope (2 * n) c :: k) ρ H
    | .exit id => match aexit id k with
      | some k' => arun f k' ρ H
      | none => False
    | .goto l => match agoto l k with
      | some m => must (tab m) ρ H
      | none => False
    | .ret => ret ρ H
    | _ => False
end
end

/-- What may be said of the ops of a body. -/
def codeOk (N : Nat) : Code → Bool
  | .region _ ops d => opsOk N ops && (!d || planOk ops (plan ops) || freeOk ops)
  | .seq a b => codeOk N a && codeOk N b
  | .cond _ a b => codeOk N a && codeOk N b
  | .block _ c => codeOk N c
  | .loop c => codeOk N c
  | .scope c => codeOk N c
  | _ => true

/-- From what is to be done on, the function returns, and K holds of what it leaves. -/
def ASt (w0 : World) (P : Program) (fn : Func) (N : Nat) (K : AV → AH → Prop) (k : List Item) (ρ : Env) (H : AH) : Prop :=
  ∀ (G : Gh) (a : Act) (w : World), HRel w0 G H w → ERelA G N ρ a → ∀ (b : Frame) (cs : List Frame), ∃ a' w' todo v,
    Steps P (lone (b.at a k) cs w) (lone { b.at a' todo with mode := .returning } cs w') ∧ a'.defers = [] ∧ (results fn a'.tmps).run P w' = .ok v w' ∧ Post w0 G H K v w'

/-- The point at place n: if j holds there, the function returns so. -/
def Pt (w0 : World) (P : Program) (fn : Func) (N : Nat) (body : Code) (K : AV → AH → Prop) (n : Nat) (j : Trans) : Prop :=
  ∀ p c k, num p = n → ctx body p = some (c, k) → ∀ ρ H, j ρ H → ASt w0 P fn N K (.code c :: k) ρ H

section
variable {w0 : World} {P : Program} {fn : Func} {N : Nat} {K : AV → AH → Prop} {body : Code} {ct : Table} {tab : Nat → Option Trans}

theorem ASt.fwd {k k' : List Item} {ρ : Env} {H : AH} (hs : ∀ (b : Frame) (a : Act) (cs : List Frame) (w : World), Go.step P (lone (b.at a k) cs w) = .next (lone (b.at a k') cs w)) (h : ASt w0 P fn N K k' ρ H) : ASt w0 P fn N K k ρ H := by
  intro G a w hr he b cs
  obtain ⟨a', w', todo, v, h1, h2⟩ := h G a w hr he b cs
  exact ⟨a', w', todo, v, .head (hs b a cs w) h1, h2⟩
/-- back over a step -/
theorem ASt.back {k k' : List Item} {ρ : Env} {H : AH} (hs : ∀ (b : Frame) (a : Act) (cs : List Frame) (w : World), step P (lone (b.at a k) cs w) = .next (lone (b.at a k') cs w)) (h : ASt w0 P fn N K k ρ H) : ASt w0 P fn N K k' ρ H := by
  intro G a w hr he b cs
  obtain ⟨a', w', todo, v, ⟨n, hn⟩, h2⟩ := h G a w hr he b cs
  refine ⟨a', w', todo, v, ?_, h2⟩
  cases n with
  | zero =>
    simp only [runN] at hn
    have : (lone (b.at a k) cs w).gs = (lone { b.at a' todo with mode := .returning } cs w').gs := by
      injection hn with hn; rw [hn]
    simp [lone, Frame.at] at this
  | succ n => exact ⟨n, by simp only [runN, hs b a cs w] at hn; exact hn⟩
theorem ASt.ret_ {k : List Item} {ρ : Env} {H : AH} (hs : ∀ (b : Frame) (a : Act) (cs : List Frame) (w : World), ∃ todo, step P (lone (b.at a k) cs w) = .next (lone { b.at a todo with mode := .returning } cs w))
    (h : ares P fn.results.toList K ρ H) : ASt w0 P fn N K k ρ H := by
  intro G a w hr he b cs
  obtain ⟨v, h1, h2⟩ := ares_sound hr he h
  obtain ⟨todo, ht⟩ := hs b a cs w
  exact ⟨a, w, todo, v, .one ht, he.defers, h1, h2⟩
theorem ASt.region {id : Nat} {ops : Array Oper} {k : List Item} {ρ : Env} {H : AH} (hct : ct.Ok w0 P) (hn : opsOk N ops = true)
    {K0 : Trans} (h : aops P ct ops (List.range ops.size) ρ H K0) (hk : ∀ ρ' H', K0 ρ' H' → ASt w0 P fn N K k ρ' H') : ASt w0 P fn N K (.code (.region id ops false) :: k) ρ H := by
  intro G a w hr he b cs
  have hw : (Code.region id ops false).wp P (fun e a' w' => e = .normal ∧ EPost w0 G H N K0 a' w') a w :=
    wp_region (aops_sound hct hn _ ρ H G a w h hr he fun a' w' hp => ⟨rfl, hp⟩)
  obtain ⟨e, a', w', ⟨rfl, G', H', ρ', g1, g2, g3, g4, g5⟩, harr⟩ := hw b k cs
  obtain ⟨a2, w2, todo, v, h1, h2, h3, G2, H2, av, f1, f2, f3, f4, f5⟩ := hk _ _ g5 G' a' w' g3 g4 b cs
  exact ⟨a2, w2, todo, v, Steps.trans harr h1, h2, h3, G2, H2, av, g1.trans f1 g2, Nat.le_trans g2 f2, f3, f4, f5⟩

theorem ASt.drawn {id : Nat} {ops : Array Oper} {k : List Item} {ρ : Env} {H : AH} (hct : ct.Ok w0 P) (hm : P.follows .mixedOrders = true) (hn : opsOk N ops = true) (hp : planOk ops (plan ops) = true)
    {K0 : Trans} (h : adraw P ct ops K0 (plan ops).qs (plan ops).es ρ H) (hk : ∀ ρ' H', K0 ρ' H' → ASt w0 P fn N K k ρ' H') : ASt w0 P fn N K (.code (.region id ops true) :: k) ρ H := by
  intro G a w hr he b cs
  have hw : (Code.region id ops true).wp P (fun e a' w' => e = .normal ∧ EPost w0 G H N K0 a' w') a w :=
    draw_sound hct hm hn hp hr he h (fun a' w' hp => ⟨rfl, hp⟩) id
  obtain ⟨e, a', w', ⟨rfl, G', H', ρ', g1, g2, g3, g4, g5⟩, harr⟩ := hw b k cs
  obtain ⟨a2, w2, todo, v, h1, h2, h3, G2, H2, av, f1, f2, f3, f4, f5⟩ := hk _ _ g5 G' a' w' g3 g4 b cs
  exact ⟨a2, w2, todo, v, Steps.trans harr h1, h2, h3, G2, H2, av, g1.trans f1 g2, Nat.le_trans g2 f2, f3, f4, f5⟩

theorem ASt.drawnD {id f : Nat} {ops : Array Oper} {k : List Item} {ρ : Env} {H : AH} (hct : ct.Ok w0 P) (hm : P.follows .mixedOrders = true) (hn : opsOk N ops = true) (hp : freeOk ops = true)
    {K0 : Trans} (h : adrawD P ct ops (ancs ops.toList) K0 f [] ρ H) (hk : ∀ ρ' H', K0 ρ' H' → ASt w0 P fn N K k ρ' H') : ASt w0 P fn N K (.code (.region id ops true) :: k) ρ H := by
  intro G a w hr he b cs
  have hw : (Code.region id ops true).wp P (fun e a' w' => e = .normal ∧ EPost w0 G H N K0 a' w') a w :=
    drawD_sound hct hm hn hp hr he h (fun a' w' hp => ⟨rfl, hp⟩) id
  obtain ⟨e, a', w', ⟨rfl, G', H', ρ', g1, g2, g3, g4, g5⟩, harr⟩ := hw b k cs
  obtain ⟨a2, w2, todo, v, h1, h2, h3, G2, H2, av, f1, f2, f3, f4, f5⟩ := hk _ _ g5 G' a' w' g3 g4 b cs
  exact ⟨a2, w2, todo, v, Steps.trans harr h1, h2, h3, G2, H2, av, g1.trans f1 g2, Nat.le_trans g2 f2, f3, f4, f5⟩

/-- Every code on a stack stands where its number says. -/
def Well (body : Code) : List AIt → Prop
  | [] => True
  | .code n c :: k => (∃ p, num p = n ∧ ctx body p = some (c, bare k)) ∧ Well body k
  | .inLoop n c :: k => (∃ p, num p = n ∧ ctx body p = some (c, .inLoop c :: bare k)) ∧ Well body k
  | .inScope n c :: k => (∃ p, num p = n ∧ ctx body p = some (c, .inScope c :: bare k)) ∧ Well body k
  | .inBlock _ :: k => Well body k

theorem exitTo_bare (id : Nat) : ∀ (k k' : List AIt), aexit id k = some k' → Well body k → exitTo id (bare k) = some (bare k') ∧ Well body k'
  | [], k', h, _ => by simp [aexit] at h
  | .inBlock id' :: k, k', h, hw => by
    simp only [aexit] at h
    by_cases e : id = id'
    · subst e; simp at h; subst h; exact ⟨by simp [bare, AIt.bare, exitTo], hw⟩
    · have e' : (id == id') = false := by simpa using e
      have e2 : (id' == id) = false := by simpa using Ne.symm e
      rw [e'] at h
      simp only [Bool.false_eq_true, if_false] at h
      obtain ⟨h1, h2⟩ := exitTo_bare id k k' h hw
      exact ⟨by simp only [bare, List.map_cons, AIt.bare, exitTo, e', e2, Bool.false_eq_true, if_false] at h1 ⊢; exact h1, h2⟩
  | .code n c :: k, k', h, hw => by
    obtain ⟨h1, h2⟩ := exitTo_bare id k k' (by simpa [aexit] using h) hw.2
    exact ⟨by simp only [bare, List.map_cons, AIt.bare, exitTo] at h1 ⊢; exact h1, h2⟩
  | .inLoop n c :: k, k', h, hw => by
    obtain ⟨h1, h2⟩ := exitTo_bare id k k' (by simpa [aexit] using h) hw.2
    exact ⟨by simp only [bare, List.map_cons, AIt.bare, exitTo] at h1 ⊢; exact h1, h2⟩
  | .inScope n c :: k, k', h, hw => by
    obtain ⟨h1, h2⟩ := exitTo_bare id k k' (by simpa [aexit] using h) hw.2
    exact ⟨by simp only [bare, List.map_cons, AIt.bare, exitTo] at h1 ⊢; exact h1, h2⟩

/-- To a label: the machine comes to what stands behind it. -/
theorem label_sound (l : Nat) : ∀ (c : Code) (p : List Bool) (k : List Item), ctx body p = some (c, k) →
    (∀ m, alabel l (num p) c = some m → ∃ q rest kl, findLabel c l = some rest ∧ num q = m ∧ ctx body q = some (.label l, kl) ∧ ∀ ρ H, ASt w0 P fn N K (.code (.label l) :: kl) ρ H → ASt w0 P fn N K (.code rest :: k) ρ H) ∧
    (alabel l (num p) c = none → findLabel c l = none)
  | .seq a b, p, k, hc => by
    obtain ⟨a1, a2⟩ := label_sound l a (false :: p) (.code b :: k) (by simp [ctx, hc, kid])
    obtain ⟨b1, b2⟩ := label_sound l b (true :: p) k (by simp [ctx, hc, kid])
    simp only [num] at a1 a2 b1 b2
    constructor
    · intro m hm
      simp only [alabel] at hm
      cases ha : alabel l (2 * num p) a with
      | some m' =>
        rw [ha] at hm; simp at hm; subst hm
        obtain ⟨q, rest, kl, h1, h2, h3, h4⟩ := a1 _ ha
        exact ⟨q, .seq rest b, kl, by simp [findLabel, h1], h2, h3, fun ρ H h => ASt.fwd (fun _ _ _ _ => step_seq) (h4 ρ H h)⟩
      | none =>
        rw [ha] at hm; simp at hm
        obtain ⟨q, rest, kl, h1, h2, h3, h4⟩ := b1 _ hm
        exact ⟨q, rest, kl, by simp [findLabel, a2 ha, h1], h2, h3, h4⟩
    · intro hm
      simp only [alabel, Option.or_eq_none_iff] at hm
      simp [findLabel, a2 hm.1, b2 hm.2]
  | .label l', p, k, hc => by
    constructor
    · intro m hm
      simp only [alabel] at hm
      split at hm
      · rename_i e
        have e : l' = l := by simpa using e
        subst e
        cases hm
        exact ⟨p, .skip, k, by simp [findLabel], rfl, hc, fun ρ H h => ASt.fwd (fun _ _ _ _ => step_skip) (ASt.back (fun _ _ _ _ => step_label) h)⟩
      · cases hm
    · intro hm
      simp only [alabel] at hm
      split at hm
      · cases hm
      · rename_i e; simp [findLabel]; simpa using e
  | .skip, p, k, hc => ⟨fun m hm => by simp [alabel] at hm, fun _ => by simp [findLabel]⟩
  | .region _ _ _, p, k, hc => ⟨fun m hm => by simp [alabel] at hm, fun _ => by simp [findLabel]⟩
  | .cond _ _ _, p, k, hc => ⟨fun m hm => by simp [alabel] at hm, fun _ => by simp [findLabel]⟩
  | .block _ _, p, k, hc => ⟨fun m hm => by simp [alabel] at hm, fun _ => by simp [findLabel]⟩
  | .loop _, p, k, hc => ⟨fun m hm => by simp [alabel] at hm, fun _ => by simp [findLabel]⟩
  | .rangeFunc _ _ _ _, p, k, hc => ⟨fun m hm => by simp [alabel] at hm, fun _ => by simp [findLabel]⟩
  | .exit _, p, k, hc => ⟨fun m hm => by simp [alabel] at hm, fun _ => by simp [findLabel]⟩
  | .scope _, p, k, hc => ⟨fun m hm => by simp [alabel] at hm, fun _ => by simp [findLabel]⟩
  | .goto _, p, k, hc => ⟨fun m hm => by simp [alabel] at hm, fun _ => by simp [findLabel]⟩
  | .ret, p, k, hc => ⟨fun m hm => by simp [alabel] at hm, fun _ => by simp [findLabel]⟩
  | .refuse _, p, k, hc => ⟨fun m hm => by simp [alabel] at hm, fun _ => by simp [findLabel]⟩

theorem goto_sound (l : Nat) : ∀ (k : List AIt) (m : Nat), Well body k → agoto l k = some m →
    ∃ k' q kl, gotoIn l (bare k) = some k' ∧ num q = m ∧ ctx body q = some (.label l, kl) ∧ ∀ ρ H, ASt w0 P fn N K (.code (.label l) :: kl) ρ H → ASt w0 P fn N K k' ρ H
  | [], m, _, h => by simp [agoto] at h
  | .inScope n c :: k, m, hw, h => by
    obtain ⟨⟨p, rfl, hp⟩, hw⟩ := hw
    obtain ⟨l1, l2⟩ := label_sound (w0 := w0) (P := P) (fn := fn) (N := N) (K := K) l c p _ hp
    simp only [agoto] at h
    cases ha : alabel l (num p) c with
    | some m' =>
      rw [ha] at h; simp at h; subst h
      obtain ⟨q, rest, kl, h1, h2, h3, h4⟩ := l1 _ ha
      exact ⟨_, q, kl, by simp only [bare, List.map_cons, AIt.bare, gotoIn, h1], h2, h3, h4⟩
    | none =>
      rw [ha] at h; simp at h
      obtain ⟨k', q, kl, h1, h2⟩ := goto_sound l k m hw h
      exact ⟨k', q, kl, by simp only [bare, List.map_cons, AIt.bare, gotoIn, l2 ha]; exact h1, h2⟩
  | .code n c :: k, m, hw, h => by
    obtain ⟨k', q, kl, h1, h2⟩ := goto_sound l k m hw.2 (by simpa [agoto] using h)
    exact ⟨k', q, kl, by simp only [bare, List.map_cons, AIt.bare, gotoIn]; exact h1, h2⟩
  | .inLoop n c :: k, m, hw, h => by
    obtain ⟨k', q, kl, h1, h2⟩ := goto_sound l k m hw.2 (by simpa [agoto] using h)
    exact ⟨k', q, kl, by simp only [bare, List.map_cons, AIt.bare, gotoIn]; exact h1, h2⟩
  | .inBlock n :: k, m, hw, h => by
    obtain ⟨k', q, kl, h1, h2⟩ := goto_sound l k m hw (by simpa [agoto] using h)
    exact ⟨k', q, kl, by simp only [bare, List.map_cons, AIt.bare, gotoIn]; exact h1, h2⟩

theorem codeOk_kid {c c' : Code} {k k' : List Item} {r : Bool} (h : kid (c, k) r = some (c', k')) (ho : codeOk N c = true) : codeOk N c' = true := by
  cases c <;> cases r <;> simp [kid] at h <;> obtain ⟨rfl, _⟩ := h <;> simp_all [codeOk]
theorem codeOk_ctx (hb : codeOk N body = true) : ∀ (p : List Bool) (c : Code) (k : List Item), ctx body p = some (c, k) → codeOk N c = true
  | [], c, k, h => by simp [ctx] at h; obtain ⟨rfl, _⟩ := h; exact hb
  | r :: p, c, k, h => by
    simp only [ctx, Option.bind_eq_some_iff] at h
    obtain ⟨⟨c0, k0⟩, h1, h2⟩ := h
    exact codeOk_kid h2 (codeOk_ctx hb p c0 k0 h1)

/-- A walk is the machine's. -/
theorem walk_sound (hct : ct.Ok w0 P) (hm : P.follows .mixedOrders = true) (hb : codeOk N body = true) (ht : ∀ n j, tab n = some j → Pt w0 P fn N body K n j) : ∀ (f : Nat),
    (∀ s ρ H, Well body s → arun P ct tab (ares P fn.results.toList K) f s ρ H → ASt w0 P fn N K (bare s) ρ H) ∧
    (∀ n c k ρ H, Well body (.code n c :: k) → aexec P ct tab (ares P fn.results.toList K) f n c k ρ H → ASt w0 P fn N K (.code c :: bare k) ρ H) := by
  intro f
  induction f with
  | zero => exact ⟨fun s ρ H _ h => by simp [arun] at h, fun n c k ρ H _ h => by simp [aexec] at h⟩
  | succ f ih =>
    obtain ⟨ih1, ih2⟩ := ih
    constructor
    · intro s ρ H hw h
      unfold arun at h
      split at h
      · exact ASt.ret_ (fun b a cs w => ⟨_, step_end⟩) h
      · rename_i n c k
        unfold onTab at h
        split at h
        · rename_i j hj
          obtain ⟨⟨p, hp, hc⟩, _⟩ := hw
          exact ht n j hj p c _ hp hc ρ H h
        · exact ih2 n c k ρ H hw h
      · exact ASt.fwd (fun _ _ _ _ => step_inBlock) (ih1 _ ρ H hw h)
      · exact ASt.fwd (fun _ _ _ _ => step_inScope) (ih1 _ ρ H hw.2 h)
      · rename_i n c k
        refine ASt.fwd (fun _ _ _ _ => step_inLoop) ?_
        unfold onTab at h
        split at h
        · rename_i j hj
          obtain ⟨⟨p, hp, hc⟩, _⟩ := hw
          exact ht n j hj p c _ hp hc ρ H h
        · exact ih2 n c (.inLoop n c :: k) ρ H ⟨hw.1, hw⟩ h
    · intro n c k ρ H hw h
      obtain ⟨⟨p, hp, hc⟩, hwk⟩ := hw
      have hco := codeOk_ctx hb p c _ hc
      unfold aexec at h
      split at h
      · exact ASt.fwd (fun _ _ _ _ => step_skip) (ih1 _ ρ H hwk h)
      · exact ASt.fwd (fun _ _ _ _ => step_label) (ih1 _ ρ H hwk h)
      · rename_i id ops
        simp only [codeOk, Bool.and_eq_true] at hco
        exact ASt.region hct hco.1 h fun ρ' H' h' => ih1 _ ρ' H' hwk h'
      · rename_i id ops
        simp only [codeOk, Bool.and_eq_true, Bool.not_true, Bool.false_or] at hco
        split at h
        · rename_i hpl
          exact ASt.drawn hct hm hco.1 hpl h fun ρ' H' h' => ih1 _ ρ' H' hwk h'
        · rename_i hpl
          rw [hpl] at hco
          exact ASt.drawnD hct hm hco.1 (by simpa using hco.2) h fun ρ' H' h' => ih1 _ ρ' H' hwk h'
      · rename_i a b
        refine ASt.fwd (fun _ _ _ _ => step_seq) (ih1 _ ρ H ?_ h)
        exact ⟨⟨false :: p, by simp [num, hp], by simp [ctx, hc, kid, bare, AIt.bare]⟩, ⟨true :: p, by simp [num, hp], by simp [ctx, hc, kid]⟩, hwk⟩
      · rename_i x a b
        unfold branch at h
        split at h
        · rename_i t ht'
          intro G ac w hr he b' cs
          have hv := he.ev x
          rw [ht'] at hv
          have hx : ac.eval x = .bool t := by
            generalize ac.eval x = u at hv
            cases hv; rfl
          have key : ASt w0 P fn N K (.code (if t then a else b) :: bare k) ρ H := by
            cases t
            · exact ih1 (.code (2 * n + 1) b :: k) ρ H ⟨⟨true :: p, by simp [num, hp], by simp [ctx, hc, kid]⟩, hwk⟩ h
            · exact ih1 (.code (2 * n) a :: k) ρ H ⟨⟨false :: p, by simp [num, hp], by simp [ctx, hc, kid]⟩, hwk⟩ h
          obtain ⟨a', w', todo, v, h1, h2⟩ := key G ac w hr he b' cs
          exact ⟨a', w', todo, v, .head (step_cond hx) h1, h2⟩
        · exact h.elim
      · rename_i id c'
        refine ASt.fwd (fun _ _ _ _ => step_block) (ih1 _ ρ H ?_ h)
        exact ⟨⟨false :: p, by simp [num, hp], by simp [ctx, hc, kid, bare, AIt.bare]⟩, hwk⟩
      · rename_i c'
        refine ASt.fwd (fun _ _ _ _ => step_loop) (ih1 _ ρ H ?_ h)
        exact ⟨⟨false :: p, by simp [num, hp], by simp [ctx, hc, kid, bare, AIt.bare]⟩, ⟨false :: p, by simp [num, hp], by simp [ctx, hc, kid]⟩, hwk⟩
      · rename_i c'
        refine ASt.fwd (fun _ _ _ _ => step_scope) (ih1 _ ρ H ?_ h)
        exact ⟨⟨false :: p, by simp [num, hp], by simp [ctx, hc, kid, bare, AIt.bare]⟩, ⟨false :: p, by simp [num, hp], by simp [ctx, hc, kid]⟩, hwk⟩
      · rename_i id
        split at h
        · rename_i k' hk
          obtain ⟨h1, h2⟩ := exitTo_bare id k k' hk hwk
          exact ASt.fwd (fun _ _ _ _ => step_exit h1) (ih1 _ ρ H h2 h)
        · exact h.elim
      · rename_i l
        split at h
        · rename_i m hm
          unfold must at h
          split at h
          · rename_i j hj
            obtain ⟨k', q, kl, h1, h2, h3, h4⟩ := goto_sound (w0 := w0) (P := P) (fn := fn) (N := N) (K := K) l k m hwk hm
            exact ASt.fwd (fun _ _ _ _ => step_goto h1) (h4 ρ H (ht m j hj q _ _ h2 h3 ρ H h))
          · exact h.elim
        · exact h.elim
      · exact ASt.ret_ (fun b a cs w => ⟨_, step_ret⟩) h
      · exact h.elim
end
end Go.Va
