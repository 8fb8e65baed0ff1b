/-
  Regions whose order is drawn, over the plain view: the plan's order stands for all orders.
-/
import Derived.Test.YtfldcobcnlgapaaGreatDoorVaDraw2
set_option linter.unusedVariables false
set_option linter.unusedSimpArgs false
set_option linter.unnecessarySimpa false
namespace Go.Va
open Go.RowKit (Below)

-- ---------------------------------------------------------------- the checks, read
structure Facts (ops : Array Oper) (A : List (List Nat)) : Prop where
  looks : ∀ i o, ops[i]? = some o → ∀ t ∈ o.looksAt ops, ∀ j, dst ops j = some t → i = j ∨ j ∈ nth A i ∨ i ∈ nth A j
  dsts : ∀ i j t, dst ops i = some t → dst ops j = some t → i = j
  bind : ∀ i o, ops[i]? = some o → ∀ e ∈ o.after, Region.binds .any e = true → e.on ∈ nth A i
  anc : ∀ i o, ops[i]? = some o → ∀ j ∈ nth A i, j < i ∧ ∃ e ∈ o.after, Region.binds .any e = true ∧ (e.on = j ∨ j ∈ nth A e.on)

theorem dst_lt {ops : Array Oper} {i t : Nat} (h : dst ops i = some t) : i < ops.size := by
  simp only [dst, Option.bind_eq_some_iff] at h
  obtain ⟨o, ho, _⟩ := h
  exact (Array.getElem?_eq_some_iff.1 ho).1
theorem hasDst_iff {ops : Array Oper} {t i : Nat} : hasDst ops t i = true ↔ dst ops i = some t := by
  unfold hasDst
  cases h : dst ops i with
  | none => simp
  | some d => simp [Nat.beq_eq]
theorem mem_binders {o : Oper} {j : Nat} : j ∈ binders o ↔ ∃ e ∈ o.after, Region.binds .any e = true ∧ e.on = j := by
  unfold binders
  rw [List.mem_filterMap]
  constructor
  · rintro ⟨e, he, h⟩
    split at h
    · rename_i hb; cases h; exact ⟨e, by simpa using he, hb, rfl⟩
    · cases h
  · rintro ⟨e, he, hb, rfl⟩
    exact ⟨e, by simpa using he, by simp [hb]⟩
theorem beq_of {i j : Nat} (h : Nat.beq i j = true) : i = j := Nat.eq_of_beq_eq_true h

theorem facts_of {ops : Array Oper} {A : List (List Nat)} (h1 : looksOk ops A = true) (h2 : dstsOk ops = true) (h3 : ancOk ops A = true) : Facts ops A := by
  refine ⟨?_, ?_, ?_, ?_⟩
  · intro i o ho t ht j hj
    have hi := (Array.getElem?_eq_some_iff.1 ho).1
    simp only [looksOk, List.all_eq_true, List.mem_range] at h1
    have h := h1 i hi
    rw [ho] at h
    simp only [List.all_eq_true, List.mem_range] at h
    have h := h t ht j (dst_lt hj)
    rw [hasDst_iff.2 hj] at h
    simp only [Bool.or_eq_true, Bool.not_true, Bool.false_eq_true, or_false, memN_iff] at h
    rcases h with (h | h) | h
    · exact .inl (beq_of h)
    · exact .inr (.inl h)
    · exact .inr (.inr h)
  · intro i j t hi hj
    simp only [dstsOk, List.all_eq_true, List.mem_range] at h2
    have h := h2 i (dst_lt hi)
    rw [hi] at h
    simp only [List.all_eq_true, List.mem_range] at h
    have h := h j (dst_lt hj)
    rw [hasDst_iff.2 hj] at h
    simp only [Bool.or_eq_true, Bool.not_true, Bool.false_eq_true, or_false] at h
    exact beq_of h
  · intro i o ho e he hb
    have hi := (Array.getElem?_eq_some_iff.1 ho).1
    simp only [ancOk, List.all_eq_true, List.mem_range] at h3
    have h := h3 i hi
    rw [ho] at h
    simp only [Bool.and_eq_true, List.all_eq_true, memN_iff] at h
    exact h.1 e.on (mem_binders.2 ⟨e, he, hb, rfl⟩)
  · intro i o ho j hj
    have hi := (Array.getElem?_eq_some_iff.1 ho).1
    simp only [ancOk, List.all_eq_true, List.mem_range] at h3
    have h := h3 i hi
    rw [ho] at h
    simp only [Bool.and_eq_true, List.all_eq_true, memN_iff] at h
    obtain ⟨h4, h5⟩ := h.2 j hj
    refine ⟨by simpa [Nat.blt_eq] using h4, ?_⟩
    simp only [List.any_eq_true, Bool.or_eq_true, memN_iff] at h5
    obtain ⟨b, hb, h6⟩ := h5
    obtain ⟨e, he, hbb, rfl⟩ := mem_binders.1 hb
    refine ⟨e, he, hbb, ?_⟩
    rcases h6 with h6 | h6
    · exact .inl (beq_of h6)
    · exact .inr h6

theorem mem_revA : ∀ (q l : List Nat) (i : Nat), i ∈ revA q l ↔ i ∈ q ∨ i ∈ l
  | [], l, i => by simp [revA]
  | x :: q, l, i => by
    rw [revA, mem_revA q (x :: l) i]
    simp only [List.mem_cons]
    constructor
    · rintro (h | h | h)
      · exact .inl (.inr h)
      · exact .inl (.inl h)
      · exact .inr h
    · rintro ((h | h) | h)
      · exact .inr (.inl h)
      · exact .inl h
      · exact .inr (.inr h)

/-- what a quiet operation yields, wanted or not -/
def qval (P : Program) (ops : Array Oper) (o : Oper) (ρ : Env) (H : AH) : Option AV := match awant ops ρ o.guard with
  | some true => aq P o.op ρ H
  | some false => some nothing
  | none => none
/-- the tmps as operation i finds them -/
def hat0 (ops : Array Oper) (A : List (List Nat)) (ρ0 ρ : Env) (i : Nat) : Env := fun t => if (nth A i).any (hasDst ops t) then ρ t else ρ0 t
/-- the tmps where only the listed operations are done -/
def hat (ops : Array Oper) (L : Nat → Bool) (ρ0 ρ : Env) : Env := fun t => if (List.range ops.size).any (fun i => !L i && hasDst ops t i) then ρ0 t else ρ t

theorem looks_ev {ops : Array Oper} {o : Oper} {ρ ρ' : Env} (h : ∀ t ∈ o.looksAt ops, ρ t = ρ' t) : ∀ x ∈ o.op.operands, ev ρ x = ev ρ' x :=
  ev_congr fun t ht => h t (List.mem_append_left _ (List.mem_filterMap.2 ⟨.tmp t, by simpa using ht, rfl⟩))
theorem looks_want {ops : Array Oper} {o : Oper} {ρ ρ' : Env} (h : ∀ t ∈ o.looksAt ops, ρ t = ρ' t) : awant ops ρ o.guard = awant ops ρ' o.guard := by
  cases hg : o.guard with
  | none => rfl
  | some g =>
    obtain ⟨j, want⟩ := g
    simp only [awant]
    have : ayield ops ρ j = ayield ops ρ' j := by
      unfold ayield
      cases hd : (ops[j]?).bind (·.dst) with
      | none => rfl
      | some d =>
        simp only
        refine h d ?_
        simp [Oper.looksAt, hg, hd]
    rw [this]
theorem qval_congr {P : Program} {ops : Array Oper} {o : Oper} {ρ ρ' : Env} {H : AH} (h : ∀ t ∈ o.looksAt ops, ρ t = ρ' t) : qval P ops o ρ H = qval P ops o ρ' H := by
  unfold qval
  rw [looks_want h, aq_congr (looks_ev h)]
theorem qval_free {P : Program} {ops : Array Oper} {o : Oper} {ρ : Env} {H H' : AH} (h : looksH o.op = false) : qval P ops o ρ H = qval P ops o ρ H' := by
  unfold qval
  rw [aq_free (H := H) (H' := H') h]

section
variable {P : Program} {ct : Table} {ops : Array Oper} {A : List (List Nat)} {ρ0 : Env} {H : AH}

/-- what stands of a quiet operation that is done in the plan's order -/
def Held (P : Program) (ops : Array Oper) (A : List (List Nat)) (ρ0 ρ : Env) (H : AH) (i : Nat) : Prop :=
  ∃ o v, ops[i]? = some o ∧ qval P ops o (hat0 ops A ρ0 ρ i) H = some v ∧ ∀ t, o.dst = some t → ρ t = v

theorem quiets_run (F : Facts ops A) (p : Option Nat) : ∀ (q done : List Nat) (ρ : Env) (k : Env → Prop), quietsOk ops A p done q = true →
    (∀ t, (∀ j ∈ done, dst ops j ≠ some t) → ρ t = ρ0 t) → (∀ j ∈ done, ∀ x ∈ nth A j, x ∈ done) → aqK P ops q ρ H k →
    ∃ ρ', k ρ' ∧ (∀ t, (∀ j ∈ q, dst ops j ≠ some t) → ρ' t = ρ t) ∧ (∀ i ∈ q, Held P ops A ρ0 ρ' H i) ∧ (∀ j ∈ revA q done, ∀ x ∈ nth A j, x ∈ revA q done) ∧
      (∀ i ∈ q, i ∉ done ∧ isQat ops i = true ∧ behind A p i = true)
  | [], done, ρ, k, _, _, hd, h => ⟨ρ, h, fun _ _ => rfl, fun i hi => by simp at hi, hd, fun i hi => by simp at hi⟩
  | i :: r, done, ρ, k, hq, hf, hd, h => by
    simp only [quietsOk, Bool.and_eq_true, List.all_eq_true, memN_iff, Bool.not_eq_true'] at hq
    obtain ⟨⟨⟨⟨h1, h2⟩, h3⟩, h4⟩, h5⟩ := hq
    have hnot : i ∉ done := fun hm => by rw [(memN_iff done i).2 hm] at h2; cases h2
    unfold aqK at h
    cases ho : ops[i]? with
    | none => rw [ho] at h; exact h.elim
    | some o =>
      rw [ho] at h
      simp only at h
      -- what it yields
      obtain ⟨v, hv, h⟩ : ∃ v, qval P ops o ρ H = some v ∧ aqK P ops r (ρ.putO o.dst v) H k := by
        unfold aguard at h
        unfold qval
        split at h
        · rename_i hw; obtain ⟨v, hv, h⟩ := bnd_ex h; exact ⟨v, by rw [hw]; exact hv, h⟩
        · rename_i hw; exact ⟨nothing, by rw [hw], h⟩
        · exact h.elim
      have hdst : dst ops i = o.dst := by simp [dst, ho]
      have hput : ∀ t, dst ops i ≠ some t → (ρ.putO o.dst v) t = ρ t := by
        intro t ht
        rw [hdst] at ht
        cases hod : o.dst with
        | none => rfl
        | some d =>
          rw [hod] at ht
          simp only [Env.putO, Env.put]
          have : Nat.beq t d = false := by
            cases hb : Nat.beq t d with
            | false => rfl
            | true => exact absurd (by rw [beq_of hb]) ht
          rw [this]; rfl
      have hself : ∀ t, o.dst = some t → (ρ.putO o.dst v) t = v := by
        intro t ht; rw [ht]; simp [Env.putO, Env.put, Nat.beq_refl]
      obtain ⟨ρ', g1, g2, g3, g4, g5⟩ := quiets_run F p r (i :: done) (ρ.putO o.dst v) k h5
        (by
          intro t ht
          rw [hput t (ht i (by simp))]
          exact hf t fun j hj => ht j (by simp [hj]))
        (by
          intro j hj x hx
          simp only [List.mem_cons] at hj
          rcases hj with rfl | hj
          · exact List.mem_cons_of_mem _ (h1 x hx)
          · exact List.mem_cons_of_mem _ (hd j hj x hx)) h
      have hr : ∀ j ∈ r, j ≠ i ∧ j ∉ done := fun j hj => by
        have := (g5 j hj).1
        simp only [List.mem_cons, not_or] at this
        exact this
      refine ⟨ρ', g1, ?_, ?_, g4, ?_⟩
      · intro t ht
        rw [g2 t fun j hj => ht j (by simp [hj]), hput t (ht i (by simp))]
      · intro j hj
        simp only [List.mem_cons] at hj
        rcases hj with rfl | hj
        · refine ⟨o, v, ho, ?_, ?_⟩
          · rw [← hv]
            refine qval_congr fun t ht => ?_
            unfold hat0
            split
            · rename_i hany
              simp only [List.any_eq_true, hasDst_iff] at hany
              obtain ⟨x, hx, hxd⟩ := hany
              have hxdone := h1 x hx
              rw [g2 t fun y hy e => (hr y hy).2 (F.dsts y x t e hxd ▸ hxdone)]
              exact hput t fun e => hnot (F.dsts j x t e hxd ▸ hxdone)
            · rename_i hany
              refine (hf t fun x hx e => ?_).symm
              rcases F.looks j o ho t ht x e with rfl | h' | h'
              · exact hnot hx
              · exact hany (by simp only [List.any_eq_true, hasDst_iff]; exact ⟨x, h', e⟩)
              · exact hnot (hd x hx j h')
          · intro t ht
            rw [g2 t fun y hy e => (hr y hy).1 (F.dsts y j t e (by rw [hdst]; exact ht))]
            exact hself t ht
        · exact g3 j hj
      · intro j hj
        simp only [List.mem_cons] at hj
        rcases hj with rfl | hj
        · exact ⟨hnot, h3, h4⟩
        · exact ⟨(hr j hj).2, (g5 j hj).2⟩
end
end Go.Va
