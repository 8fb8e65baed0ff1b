/-
  Regions whose order is drawn, over the plain view: the plan's order stands for all orders (the proof over all schedules).
-/
import Derived.Test.YtfldcobcnlgapaaGreatDoorVaDraw3
set_option linter.unusedVariables false
set_option linter.unusedSimpArgs false
set_option linter.unnecessarySimpa false
namespace Go.Va
open Go.RowKit (Below)

def restOk (ops : Array Oper) (A : List (List Nat)) (p : Option Nat) (done : List Nat) : List (List Nat) → List (Nat × List Nat) → Prop
  | qs, [] => qs = []
  | qs, e :: es => effOk ops A p done e = true ∧ goOk ops A (some e.1) (e.1 :: done) qs es = true
def restOrder (qs : List (List Nat)) : List (Nat × List Nat) → List Nat
  | [] => []
  | e :: es => e.1 :: order qs es
/-- the plan's rest, from an effect on -/
def restP (P : Program) (ct : Table) (ops : Array Oper) (K : Env → AH → Prop) (qs : List (List Nat)) : List (Nat × List Nat) → Env → AH → Prop
  | [], ρ, H => K ρ H
  | e :: es, ρ, H => match ops[e.1]? with
    | some o => aguard (awant ops ρ o.guard) (fun k => aop P ct o.op ρ H k) H fun v H' => agains P ops ρ H' e.2 (adraw P ct ops K qs es (ρ.putO o.dst v) H')
    | none => False

section
variable {P : Program} {ct : Table} {ops : Array Oper} {A : List (List Nat)} {ρ0 : Env} {N : Nat} {K : Env → AH → Prop}

/-- From a stage's beginning to its effect. -/
theorem stage_run (F : Facts ops A) {p : Option Nat} {done : List Nat} {qs : List (List Nat)} {es : List (Nat × List Nat)} {ρ : Env} {H : AH} (hg : goOk ops A p done qs es = true)
    (hf : ∀ t, (∀ j ∈ done, dst ops j ≠ some t) → ρ t = ρ0 t) (hd : ∀ j ∈ done, ∀ x ∈ nth A j, x ∈ done) (h : adraw P ct ops K qs es ρ H) :
    ∃ q qs' ρ', qs = q :: qs' ∧ restOk ops A p (revA q done) qs' es ∧ restP P ct ops K qs' es ρ' H ∧ (∀ t, (∀ j ∈ q, dst ops j ≠ some t) → ρ' t = ρ t) ∧ (∀ i ∈ q, Held P ops A ρ0 ρ' H i) ∧
      (∀ j ∈ revA q done, ∀ x ∈ nth A j, x ∈ revA q done) ∧ (∀ i ∈ q, i ∉ done ∧ isQat ops i = true ∧ behind A p i = true) := by
  match qs, es, hg, h with
  | [q], [], hg, h =>
    simp only [goOk] at hg
    simp only [adraw] at h
    obtain ⟨ρ', g1, g2, g3, g4, g5⟩ := quiets_run F p q done ρ _ hg hf hd h
    exact ⟨q, [], ρ', rfl, rfl, g1, g2, g3, g4, g5⟩
  | q :: qs, e :: es, hg, h =>
    simp only [goOk, Bool.and_eq_true] at hg
    simp only [adraw] at h
    obtain ⟨ρ', g1, g2, g3, g4, g5⟩ := quiets_run F p q done ρ _ hg.1.1 hf hd h
    exact ⟨q, qs, ρ', rfl, ⟨hg.1.2, hg.2⟩, g1, g2, g3, g4, g5⟩

/-- What stands behind the next effect has something ahead of it that is not done. -/
theorem later_has : ∀ (qs : List (List Nat)) (es : List (Nat × List Nat)) (x0 : Nat) (done0 done : List Nat), goOk ops A (some x0) done0 qs es = true → x0 ∉ done → (∀ y ∈ done, y ∈ done0) →
    ∀ i ∈ order qs es, ∃ x ∈ nth A i, x ∉ done
  | [q], [], x0, done0, done, hg, hx, hs, i, hi => by
    simp only [goOk] at hg
    simp only [order] at hi
    have : ∀ (q done0 : List Nat), quietsOk ops A (some x0) done0 q = true → i ∈ q → x0 ∈ nth A i := by
      intro q
      induction q with
      | nil => intro _ _ h; simp at h
      | cons y q ih =>
        intro d h hm
        simp only [quietsOk, Bool.and_eq_true, behind, memN_iff] at h
        simp only [List.mem_cons] at hm
        rcases hm with rfl | hm
        · exact h.1.2
        · exact ih _ h.2 hm
    exact ⟨x0, this q done0 hg hi, hx⟩
  | q :: qs, e :: es, x0, done0, done, hg, hx, hs, i, hi => by
    simp only [goOk, Bool.and_eq_true] at hg
    have hq : ∀ (q done0 : List Nat), quietsOk ops A (some x0) done0 q = true → i ∈ q → x0 ∈ nth A i := by
      intro q
      induction q with
      | nil => intro _ _ h; simp at h
      | cons y q ih =>
        intro d h hm
        simp only [quietsOk, Bool.and_eq_true, behind, memN_iff] at h
        simp only [List.mem_cons] at hm
        rcases hm with rfl | hm
        · exact h.1.2
        · exact ih _ h.2 hm
    simp only [order, List.mem_append, List.mem_cons] at hi
    have he := hg.1.2
    simp only [effOk, Bool.and_eq_true, behind, memN_iff, Bool.not_eq_true'] at he
    rcases hi with hi | rfl | hi
    · exact ⟨x0, hq q done0 hg.1.1 hi, hx⟩
    · exact ⟨x0, he.1.2, hx⟩
    · refine later_has qs es e.1 (e.1 :: revA q done0) done hg.2 ?_ ?_ i hi
      · intro hm
        have := (memN_iff (revA q done0) e.1).2 ((mem_revA q done0 e.1).2 (.inr (hs _ hm)))
        rw [this] at he
        cases he.1.1.1.2
      · intro y hy
        exact List.mem_cons_of_mem _ ((mem_revA q done0 y).2 (.inr (hs y hy)))
  | [], [], _, _, _, hg, _, _, _, _ => by simp [goOk] at hg
  | [], _ :: _, _, _, _, hg, _, _, _, _ => by simp [goOk] at hg
  | _ :: _ :: _, [], _, _, _, hg, _, _, _, _ => by simp [goOk] at hg

/-- How far a drawn order has come, held against the plan's: what is done in the plan's order, what is listed. -/
structure DCore (P : Program) (ops : Array Oper) (A : List (List Nat)) (ρ0 : Env) (N : Nat) (w0 : World)
    (L : Nat → Bool) (done : List Nat) (ρ : Env) (H : AH) (G : Gh) (a : Act) (w : World) : Prop where
  lsub : ∀ i, L i = true → i ∈ done
  lclosed : ∀ i, L i = true → ∀ j ∈ nth A i, L j = true
  dclosed : ∀ i ∈ done, ∀ j ∈ nth A i, j ∈ done
  quiet : ∀ i ∈ done, L i = false → isQat ops i = true
  pend : ∀ i ∈ done, L i = false → Held P ops A ρ0 ρ H i
  frame : ∀ t, (∀ j ∈ done, dst ops j ≠ some t) → ρ t = ρ0 t
  hrel : HRel w0 G H w
  env : ERelA G N (hat ops L ρ0 ρ) a
structure DSt (P : Program) (ct : Table) (ops : Array Oper) (A : List (List Nat)) (ρ0 : Env) (N : Nat) (K : Env → AH → Prop) (w0 : World)
    (L : Nat → Bool) (done : List Nat) (p : Option Nat) (qs : List (List Nat)) (es : List (Nat × List Nat)) (ρ : Env) (H : AH) (G : Gh) (a : Act) (w : World) : Prop where
  core : DCore P ops A ρ0 N w0 L done ρ H G a w
  rest : restOk ops A p done qs es
  cont : restP P ct ops K qs es ρ H
  all : ∀ i, i < ops.size → i ∈ done ∨ i ∈ restOrder qs es

theorem hat_listed {L : Nat → Bool} {ρ : Env} {t : Nat} (h : ∀ i, L i = false → dst ops i ≠ some t) : hat ops L ρ0 ρ t = ρ t := by
  unfold hat
  rw [if_neg]
  intro hany
  simp only [List.any_eq_true, Bool.and_eq_true, Bool.not_eq_true', hasDst_iff] at hany
  obtain ⟨i, _, h1, h2⟩ := hany
  exact h i h1 h2
theorem hat_unlisted {L : Nat → Bool} {ρ : Env} {t i : Nat} (hl : L i = false) (hd : dst ops i = some t) : hat ops L ρ0 ρ t = ρ0 t := by
  unfold hat
  rw [if_pos]
  simp only [List.any_eq_true, Bool.and_eq_true, Bool.not_eq_true', hasDst_iff]
  exact ⟨i, by simpa using dst_lt hd, hl, hd⟩
theorem hat_cases {L : Nat → Bool} (t : Nat) : (∃ i, L i = false ∧ dst ops i = some t) ∨ ∀ i, L i = false → dst ops i ≠ some t := by
  by_cases h : ∃ i, L i = false ∧ dst ops i = some t
  · exact .inl h
  · exact .inr fun i h1 h2 => h ⟨i, h1, h2⟩

theorem ready_anc (F : Facts ops A) {L : Nat → Bool} (hc : ∀ i, L i = true → ∀ j ∈ nth A i, L j = true) {i : Nat} {o : Oper} (ho : ops[i]? = some o)
    (hr : ∀ e ∈ o.after, Region.binds .any e = true → L e.on = true) : ∀ j ∈ nth A i, L j = true := by
  intro j hj
  obtain ⟨_, e, he, hb, h⟩ := F.anc i o ho j hj
  rcases h with rfl | h
  · exact hr e he hb
  · exact hc _ (hr e he hb) j h

variable {w0 : World} {L : Nat → Bool} {done : List Nat} {p : Option Nat} {qs : List (List Nat)} {es : List (Nat × List Nat)} {ρ : Env} {H : AH} {G : Gh} {a : Act} {w : World}

/-- A quiet operation of the plan's past, taken now. -/
theorem quiet_env (F : Facts ops A) (S : DCore P ops A ρ0 N w0 L done ρ H G a w) {i : Nat} {o : Oper} (ho : ops[i]? = some o) (hl : L i = false) (hi : i ∈ done)
    (hanc : ∀ j ∈ nth A i, L j = true) : ∀ t ∈ o.looksAt ops, hat ops L ρ0 ρ t = hat0 ops A ρ0 ρ i t := by
  intro t ht
  unfold hat0
  split
  · rename_i hany
    simp only [List.any_eq_true, hasDst_iff] at hany
    obtain ⟨x, hx, hxd⟩ := hany
    refine hat_listed fun y hy e => ?_
    have := F.dsts x y t hxd e
    subst this
    rw [hanc x hx] at hy; cases hy
  · rename_i hany
    rcases hat_cases (ops := ops) (L := L) t with ⟨x, hx, hxd⟩ | hno
    · exact hat_unlisted hx hxd
    · rw [hat_listed hno]
      refine S.frame t fun j hj e => ?_
      have hlj : L j = true := by
        cases hlj : L j with
        | true => rfl
        | false => exact absurd e (hno j hlj)
      rcases F.looks i o ho t ht j e with rfl | h' | h'
      · rw [hl] at hlj; cases hlj
      · exact hany (by simp only [List.any_eq_true, hasDst_iff]; exact ⟨j, h', e⟩)
      · rw [S.lclosed j hlj i h'] at hl; cases hl
/-- The next effect, taken now. -/
theorem eff_env (F : Facts ops A) (S : DCore P ops A ρ0 N w0 L done ρ H G a w) {i : Nat} {o : Oper} (ho : ops[i]? = some o) (hi : i ∉ done)
    (hanc : ∀ j ∈ nth A i, L j = true) : ∀ t ∈ o.looksAt ops, hat ops L ρ0 ρ t = ρ t := by
  intro t ht
  rcases hat_cases (ops := ops) (L := L) t with ⟨x, hx, hxd⟩ | hno
  · rw [hat_unlisted hx hxd]
    refine (S.frame t fun j hj e => ?_).symm
    have := F.dsts x j t hxd e
    subst this
    rcases F.looks i o ho t ht x e with rfl | h' | h'
    · exact hi hj
    · rw [hanc x h'] at hx; cases hx
    · exact hi (S.dclosed x hj i h')
  · exact hat_listed hno

def listL (L : Nat → Bool) (i : Nat) : Nat → Bool := fun j => if j = i then true else L j

theorem putO_ne {o : Oper} {i t : Nat} {v : AV} (ho : ops[i]? = some o) (ht : dst ops i ≠ some t) (ρ : Env) : (ρ.putO o.dst v) t = ρ t := by
  have hdst : dst ops i = o.dst := by simp [dst, ho]
  rw [hdst] at ht
  cases hod : o.dst with
  | none => rfl
  | some d =>
    rw [hod] at ht
    simp only [Env.putO, Env.put]
    have : Nat.beq t d = false := by
      cases hb : Nat.beq t d with
      | false => rfl
      | true => exact absurd (by rw [beq_of hb]) ht
    rw [this]; rfl
theorem putO_eq {o : Oper} {i t : Nat} {v : AV} (ho : ops[i]? = some o) (ht : dst ops i = some t) (ρ : Env) : (ρ.putO o.dst v) t = v := by
  have hdst : dst ops i = o.dst := by simp [dst, ho]
  rw [← hdst, ht]; simp [Env.putO, Env.put, Nat.beq_refl]

theorem erela_ext {ρ ρ' : Env} (h : ERelA G N ρ a) (he : ∀ t, ρ' t = ρ t) : ERelA G N ρ' a := ⟨h.size, h.defers, fun t => by rw [he]; exact h.val t⟩

/-- A quiet operation, listed. -/
theorem quiet_next (F : Facts ops A) (S : DCore P ops A ρ0 N w0 L done ρ H G a w) {i : Nat} {o : Oper} {v : AV} (ho : ops[i]? = some o) (hl : L i = false) (hi : i ∈ done)
    (hanc : ∀ j ∈ nth A i, L j = true) (hv : ∀ t, o.dst = some t → ρ t = v) {G' : Gh} {a' : Act} {w' : World} (hr : HRel w0 G' H w') (he : ERelA G' N ((hat ops L ρ0 ρ).putO o.dst v) a') :
    DCore P ops A ρ0 N w0 (listL L i) done ρ H G' a' w' := by
  have hdst : dst ops i = o.dst := by simp [dst, ho]
  have hsub : ∀ j, listL L i j = false → L j = false := by
    intro j hj; simp only [listL] at hj; split at hj
    · cases hj
    · exact hj
  refine ⟨?_, ?_, S.dclosed, fun j hj hjl => S.quiet j hj (hsub j hjl), fun j hj hjl => S.pend j hj (hsub j hjl), S.frame, hr, erela_ext he ?_⟩
  · intro j hj
    simp only [listL] at hj
    split at hj
    · rename_i e; subst e; exact hi
    · exact S.lsub j hj
  · intro j hj x hx
    simp only [listL] at hj ⊢
    split
    · rfl
    · split at hj
      · rename_i e; subst e; exact hanc x hx
      · exact S.lclosed j hj x hx
  · intro t
    rcases hat_cases (ops := ops) (L := listL L i) t with ⟨x, hx, hxd⟩ | hno
    · have hxi : x ≠ i := by intro e; subst e; simp [listL] at hx
      rw [hat_unlisted hx hxd, putO_ne ho fun e => hxi (F.dsts x i t hxd e), hat_unlisted (hsub x hx) hxd]
    · rw [hat_listed hno]
      by_cases ht : dst ops i = some t
      · rw [putO_eq ho ht]; exact hv t (hdst ▸ ht)
      · rw [putO_ne ho ht]
        refine (hat_listed fun j hj e => ?_).symm
        by_cases hji : j = i
        · subst hji; exact ht e
        · exact hno j (by simp [listL, hji, hj]) e

theorem agains_all {ρ : Env} {H' : AH} : ∀ (l : List Nat) (q : Prop), agains P ops ρ H' l q → q ∧ ∀ i ∈ l, again P ops ρ H' i
  | [], q, h => ⟨h, fun i hi => by simp at hi⟩
  | x :: l, q, h => by
    obtain ⟨h6, h7⟩ := h
    obtain ⟨h8, h9⟩ := agains_all l q h7
    refine ⟨h8, fun i hi => ?_⟩
    simp only [List.mem_cons] at hi
    rcases hi with rfl | hi
    · exact h6
    · exact h9 i hi

/-- An effect, listed; the quiet operations behind it. -/
theorem eff_core (F : Facts ops A) {e : Nat × List Nat} (S : DCore P ops A ρ0 N w0 L done ρ H G a w) {o : Oper} {v : AV} {H' : AH} (ho : ops[e.1]? = some o) (hnot : e.1 ∉ done)
    (hanc : ∀ j ∈ nth A e.1, L j = true) (h5 : ∀ j ∈ done, lateOk ops A e j = true) (hagain : ∀ i ∈ e.2, again P ops ρ H' i) {G' : Gh} {a' : Act} {w' : World} (hr : HRel w0 G' H' w')
    (he : ERelA G' N ((hat ops L ρ0 ρ).putO o.dst v) a') {q : List Nat} {ρ' : Env} {p : Option Nat} (g3 : ∀ t, (∀ j ∈ q, dst ops j ≠ some t) → ρ' t = (ρ.putO o.dst v) t) (g4 : ∀ i ∈ q, Held P ops A ρ0 ρ' H' i)
    (g5 : ∀ j ∈ revA q (e.1 :: done), ∀ x ∈ nth A j, x ∈ revA q (e.1 :: done)) (g6 : ∀ i ∈ q, i ∉ e.1 :: done ∧ isQat ops i = true ∧ behind A p i = true) :
    DCore P ops A ρ0 N w0 (listL L e.1) (revA q (e.1 :: done)) ρ' H' G' a' w' := by
  have hdst : dst ops e.1 = o.dst := by simp [dst, ho]
  have hsub : ∀ j, listL L e.1 j = false → L j = false ∧ j ≠ e.1 := by
    intro j hj; simp only [listL] at hj; split at hj
    · cases hj
    · rename_i hne; exact ⟨hj, hne⟩
  have hq : ∀ j ∈ q, j ≠ e.1 ∧ j ∉ done := fun j hj => by
    have := (g6 j hj).1
    simp only [List.mem_cons, not_or] at this
    exact this
  have hmem : ∀ j, j ∈ revA q (e.1 :: done) ↔ j ∈ q ∨ j = e.1 ∨ j ∈ done := fun j => by rw [mem_revA]; simp
  refine ⟨?_, ?_, g5, ?_, ?_, ?_, hr, erela_ext he ?_⟩
  · intro j hj
    rw [hmem]
    simp only [listL] at hj
    split at hj
    · rename_i e'; exact .inr (.inl e')
    · exact .inr (.inr (S.lsub j hj))
  · intro j hj x hx
    simp only [listL] at hj ⊢
    split
    · rfl
    · split at hj
      · rename_i e'; subst e'; exact hanc x hx
      · exact S.lclosed j hj x hx
  · intro j hj hjl
    obtain ⟨hl, hne⟩ := hsub j hjl
    rcases (hmem j).1 hj with h | h | h
    · exact (g6 j h).2.1
    · exact absurd h hne
    · exact S.quiet j h hl
  · intro j hj hjl
    obtain ⟨hl, hne⟩ := hsub j hjl
    rcases (hmem j).1 hj with h | h | h
    · exact g4 j h
    · exact absurd h hne
    · -- pending from before
      obtain ⟨oj, vj, hoj, hvj, hdj⟩ := S.pend j h hl
      have hkeep : ∀ t x, x ∈ done → dst ops x = some t → ρ' t = ρ t := by
        intro t x hx hxt
        rw [g3 t fun y hy e' => (hq y hy).2 (F.dsts y x t e' hxt ▸ hx)]
        exact putO_ne ho (fun e' => hnot (F.dsts e.1 x t e' hxt ▸ hx)) ρ
      have hhat : ∀ t, hat0 ops A ρ0 ρ' j t = hat0 ops A ρ0 ρ j t := by
        intro t
        unfold hat0
        split
        · rename_i hany
          simp only [List.any_eq_true, hasDst_iff] at hany
          obtain ⟨x, hx, hxd⟩ := hany
          exact hkeep t x (S.dclosed j h x hx) hxd
        · rfl
      have hdj' : dst ops j = oj.dst := by simp [dst, hoj]
      have hgoal : ∀ v', qval P ops oj (hat0 ops A ρ0 ρ j) H' = some v' → (∀ t, oj.dst = some t → v' = vj) → Held P ops A ρ0 ρ' H' j := by
        intro v' hv' hd'
        refine ⟨oj, v', hoj, ?_, fun t ht => by rw [hkeep t j h (hdj' ▸ ht), hdj t ht, hd' t ht]⟩
        rw [qval_congr (ρ' := hat0 ops A ρ0 ρ j) fun t _ => hhat t]
        exact hv'
      cases hlooks : looksH oj.op with
      | false => exact hgoal vj (by rw [qval_free (H' := H) hlooks]; exact hvj) fun _ _ => rfl
      | true =>
        have h6 := h5 j h
        simp only [lateOk, Bool.or_eq_true, Bool.not_eq_true', memN_iff, Bool.and_eq_true] at h6
        rcases h6 with (h6 | h6) | ⟨h6, h7⟩
        · simp only [looksHat, hoj, hlooks] at h6; cases h6
        · rw [hanc j h6] at hl; cases hl
        · have h8 := hagain j h6
          rw [hoj] at h7
          simp only [List.all_eq_true, List.mem_range, Bool.or_eq_true, Bool.not_eq_true', memN_iff] at h7
          have henv : ∀ t ∈ oj.looksAt ops, ρ t = hat0 ops A ρ0 ρ j t := by
            intro t ht
            unfold hat0
            split
            · rfl
            · rename_i hany
              refine S.frame t fun x hx e' => hany ?_
              simp only [List.any_eq_true, hasDst_iff]
              rcases h7 t ht x (dst_lt e') with h9 | h9
              · rw [hasDst_iff.2 e'] at h9; cases h9
              · exact ⟨x, h9, e'⟩
          rw [← qval_congr henv] at hvj
          unfold again at h8
          rw [hoj] at h8
          simp only at h8
          unfold wantE at h8
          split at h8
          · rename_i hw
            refine hgoal (dval ρ oj) ?_ ?_
            · rw [← qval_congr henv]
              unfold qval
              rw [hw]
              exact h8
            · intro t ht
              unfold dval
              rw [ht]
              exact hdj t ht
          · rename_i hw
            refine hgoal vj ?_ fun _ _ => rfl
            rw [← qval_congr henv]
            unfold qval at hvj ⊢
            rw [hw] at hvj ⊢
            exact hvj
          · exact h8.elim
  · intro t ht
    have ht' : ∀ j, j ∈ q ∨ j = e.1 ∨ j ∈ done → dst ops j ≠ some t := fun j hj => ht j ((hmem j).2 hj)
    rw [g3 t fun j hj => ht' j (.inl hj), putO_ne ho (ht' e.1 (.inr (.inl rfl)))]
    exact S.frame t fun j hj => ht' j (.inr (.inr hj))
  · intro t
    rcases hat_cases (ops := ops) (L := listL L e.1) t with ⟨x, hx, hxd⟩ | hno
    · obtain ⟨hl, hne⟩ := hsub x hx
      rw [hat_unlisted hx hxd, putO_ne ho fun e' => hne (F.dsts x e.1 t hxd e'), hat_unlisted hl hxd]
    · rw [hat_listed hno]
      have hnq : ∀ j ∈ q, dst ops j ≠ some t := fun j hj => hno j (by
        simp only [listL]
        rw [if_neg (hq j hj).1]
        cases hlj : L j with
        | false => rfl
        | true => exact absurd (S.lsub j hlj) (hq j hj).2)
      rw [g3 t hnq]
      by_cases ht : dst ops e.1 = some t
      · rw [putO_eq ho ht, putO_eq ho ht]
      · rw [putO_ne ho ht, putO_ne ho ht]
        refine (hat_listed fun j hj e' => ?_).symm
        by_cases hji : j = e.1
        · subst hji; exact ht e'
        · exact hno j (by simp [listL, hji, hj]) e'

/-- The next effect of a plan, listed. -/
theorem eff_next (F : Facts ops A) {e : Nat × List Nat} (S : DSt P ct ops A ρ0 N K w0 L done p qs (e :: es) ρ H G a w) {o : Oper} {v : AV} {H' : AH} (ho : ops[e.1]? = some o)
    (hanc : ∀ j ∈ nth A e.1, L j = true) (hc : agains P ops ρ H' e.2 (adraw P ct ops K qs es (ρ.putO o.dst v) H')) {G' : Gh} {a' : Act} {w' : World} (hr : HRel w0 G' H' w')
    (he : ERelA G' N ((hat ops L ρ0 ρ).putO o.dst v) a') :
    ∃ done' qs' ρ', DSt P ct ops A ρ0 N K w0 (listL L e.1) done' (some e.1) qs' es ρ' H' G' a' w' := by
  obtain ⟨heff, hgo⟩ := S.rest
  simp only [effOk, Bool.and_eq_true, List.all_eq_true, memN_iff, Bool.not_eq_true'] at heff
  obtain ⟨⟨⟨⟨h1, h2⟩, h3⟩, h4⟩, h5⟩ := heff
  have hnot : e.1 ∉ done := fun hm => by rw [(memN_iff done e.1).2 hm] at h2; cases h2
  obtain ⟨hdraw, hagain⟩ := agains_all _ _ hc
  obtain ⟨q, qs', ρ', rfl, g1, g2, g3, g4, g5, g6⟩ := stage_run (ρ0 := ρ0) F hgo
    (by
      intro t ht
      rw [putO_ne ho (ht e.1 (by simp))]
      exact S.core.frame t fun j hj => ht j (by simp [hj]))
    (by
      intro j hj x hx
      simp only [List.mem_cons] at hj
      rcases hj with rfl | hj
      · exact List.mem_cons_of_mem _ (h1 x hx)
      · exact List.mem_cons_of_mem _ (S.core.dclosed j hj x hx)) hdraw
  have hmem : ∀ j, j ∈ revA q (e.1 :: done) ↔ j ∈ q ∨ j = e.1 ∨ j ∈ done := fun j => by rw [mem_revA]; simp
  refine ⟨revA q (e.1 :: done), qs', ρ', eff_core F S.core ho hnot hanc h5 hagain hr he g3 g4 g5 g6, g1, g2, ?_⟩
  · intro j hj
    rcases S.all j hj with h | h
    · exact .inl ((hmem j).2 (.inr (.inr h)))
    · simp only [restOrder, List.mem_cons] at h
      rcases h with h | h
      · exact .inl ((hmem j).2 (.inr (.inl h)))
      · cases es with
        | nil =>
          simp only [order] at h
          exact .inl ((hmem j).2 (.inl h))
        | cons e2 es =>
          simp only [order, List.mem_append, List.mem_cons] at h
          rcases h with h | h
          · exact .inl ((hmem j).2 (.inl h))
          · exact .inr (by simp only [restOrder, List.mem_cons]; exact h)
end
end Go.Va
