/-
  Regions whose order is drawn, over the plain view: the machine's.
-/
import Derived.Test.YtfldcobcnlgapaaGreatDoorVaDraw4
set_option linter.unusedVariables false
set_option linter.unusedSimpArgs false
set_option linter.unnecessarySimpa false
namespace Go.Va
open Go.RowKit (Below)

def cnt (ops : Array Oper) (L : Nat → Bool) : Nat := (List.range ops.size).countP fun i => !L i
theorem countP_lt' {p q : Nat → Bool} : ∀ (l : List Nat) (i : Nat), i ∈ l → p i = true → q i = false → (∀ x, q x = true → p x = true) → l.countP q < l.countP p
  | x :: l, i, hi, hp, hq, hs => by
    have hle : l.countP q ≤ l.countP p := List.countP_mono_left fun x _ h => hs x h
    simp only [List.mem_cons] at hi
    rw [List.countP_cons, List.countP_cons]
    rcases hi with rfl | hi
    · rw [hp, hq]; simp; omega
    · have := countP_lt' l i hi hp hq hs
      cases hqx : q x with
      | true => rw [hs x hqx]; simp; omega
      | false => simp; split <;> omega
  | [], i, hi, _, _, _ => by simp at hi
theorem cnt_list {ops : Array Oper} {L : Nat → Bool} {i : Nat} (hi : i < ops.size) (hl : L i = false) : cnt ops (listL L i) < cnt ops L :=
  countP_lt' _ i (by simpa using hi) (by simp [hl]) (by simp [listL]) fun x hx => by
    simp only [listL] at hx
    split at hx
    · simp at hx
    · exact hx

section
variable {P : Program} {ct : Table} {ops : Array Oper} {A : List (List Nat)} {ρ0 : Env} {N : Nat} {K : Env → AH → Prop} {w0 : World} {H0 : AH} {G0 : Gh}

def lset (listed : Array Bool) : Nat → Bool := fun i => listed.getD i false
theorem lset_set {listed : Array Bool} {i : Nat} (hi : i < listed.size) : lset (listed.setIfInBounds i true) = listL (lset listed) i := by
  funext j
  simp only [lset, listL]
  by_cases h : j = i
  · subst h; simp [hi]
  · rw [if_neg h]; exact getD_set_ne false (Ne.symm h)

theorem vrel_nothing {G : Gh} : VRel G nothing undef := .tup rfl fun i a v h => by simp at h

theorem aguard_want {c : Option Bool} {e : (AV → AH → Prop) → Prop} {H : AH} {k : AV → AH → Prop} (h : aguard c e H k) : (c = some true ∧ e k) ∨ (c = some false ∧ k nothing H) := by
  unfold aguard at h
  split at h
  · exact .inl ⟨rfl, h⟩
  · exact .inr ⟨rfl, h⟩
  · exact h.elim

theorem draw_any (hct : ct.Ok w0 P) (hn : opsOk N ops = true) (F : Facts ops A) {Q : Exit → Act → World → Prop} (hQ : ∀ a w, EPost w0 G0 H0 N K a w → Q .normal a w) :
    ∀ (fuel : Nat) (listed : Array Bool) (done : List Nat) (p : Option Nat) (qs : List (List Nat)) (es : List (Nat × List Nat)) (ρ : Env) (H : AH) (G : Gh) (a : Act) (w : World),
      listed.size = ops.size → cnt ops (lset listed) ≤ fuel → Gh.Le H0.next G0 G → H0.next ≤ H.next → DSt P ct ops A ρ0 N K w0 (lset listed) done p qs es ρ H G a w → wpAny P .any ops Q fuel listed a w := by
  intro fuel
  induction fuel with
  | zero =>
    intro listed done p qs es ρ H G a w hsz hc hG hH S
    have hall : ∀ i, i < ops.size → lset listed i = true := by
      intro i hi
      cases h : lset listed i with
      | true => rfl
      | false => have := cnt_list hi h; omega
    have hnone : Region.ready .any ops listed = [] := by
      cases hr : Region.ready .any ops listed with
      | nil => rfl
      | cons j l =>
        obtain ⟨h1, o, ho, _⟩ := mem_ready.1 (show j ∈ Region.ready .any ops listed by rw [hr]; simp)
        have hj := (Array.getElem?_eq_some_iff.1 ho).1
        have h2 := hall j hj
        have h3 : j < listed.size := by omega
        simp [lset, h3] at h1 h2
        rw [h1] at h2; cases h2
    refine ⟨hnone, ?_⟩
    have hes : es = [] := by
      cases es with
      | nil => rfl
      | cons e es =>
        have hr := S.rest
        simp only [restOk, effOk, Bool.and_eq_true, Bool.not_eq_true'] at hr
        have hnot : e.1 ∉ done := fun hm => by rw [(memN_iff done e.1).2 hm] at hr; cases hr.1.1.1.1.2
        have hlt : e.1 < ops.size := by
          have := S.cont
          simp only [restP] at this
          cases ho : ops[e.1]? with
          | none => rw [ho] at this; exact this.elim
          | some o => exact (Array.getElem?_eq_some_iff.1 ho).1
        exact absurd (S.core.lsub e.1 (hall e.1 hlt)) hnot
    subst hes
    refine hQ a w ⟨G, H, ρ, hG, hH, S.core.hrel, erela_ext S.core.env fun t => ?_, S.cont⟩
    refine (hat_listed fun i hi e => ?_).symm
    rw [hall i (dst_lt e)] at hi; cases hi
  | succ fuel ih =>
    intro listed done p qs es ρ H G a w hsz hc hG hH S
    -- a step
    have hstep : ∀ i ∈ Region.ready .any ops listed, wpOp P ops Q i (wpAny P .any ops Q fuel (listed.setIfInBounds i true)) a w := by
      intro i hi
      obtain ⟨hun, o, ho, hb⟩ := mem_ready.1 hi
      have hlt := (Array.getElem?_eq_some_iff.1 ho).1
      have hlt' : i < listed.size := by omega
      have hl : lset listed i = false := by simp [lset, hlt'] at hun ⊢; exact hun
      have hanc := ready_anc F S.core.lclosed ho (fun e he hbb => hb e he hbb)
      have hd : dstOk N o = true := Array.all_eq_true_iff_forall_mem.1 hn o (Array.mem_of_getElem? ho)
      have hd' : ∀ x, o.dst = some x → x < N := by intro x hx; simpa [dstOk, hx] using hd
      have hcnt : cnt ops (lset (listed.setIfInBounds i true)) ≤ fuel := by rw [lset_set hlt']; have := cnt_list hlt hl; omega
      have hsz' : (listed.setIfInBounds i true).size = ops.size := by simpa using hsz
      unfold wpOp
      rw [ho]
      simp only
      by_cases hdone : i ∈ done
      · -- quiet
        obtain ⟨o', v, ho', hv, hdv⟩ := S.core.pend i hdone hl
        rw [ho] at ho'; cases ho'
        have henv := quiet_env F S.core ho hl hdone hanc
        rw [← qval_congr henv] at hv
        unfold qval at hv
        split at hv
        · rename_i hw
          rw [awant_sound S.core.env hn hw]
          simp only [if_true]
          refine .inl (aop_step hct S.core.hrel S.core.env hd (aq_at (ct := ct) hv (K := fun v' H' => v' = v ∧ H' = H) ⟨rfl, rfl⟩) ?_)
          rintro a' w' ⟨G', H', ρ', g1, g2, g3, g4, v', rfl, rfl, rfl⟩
          exact ih _ done p qs es ρ H' G' a' w' hsz' hcnt (hG.trans g1 hH) hH (by rw [lset_set hlt']; exact ⟨quiet_next F S.core ho hl hdone hanc hdv g3 g4, S.rest, S.cont, S.all⟩)
        · rename_i hw
          cases hv
          rw [awant_sound S.core.env hn hw]
          simp only [Bool.false_eq_true, if_false]
          exact ih _ done p qs es ρ H G _ w hsz' hcnt hG hH (by
            rw [lset_set hlt']
            exact ⟨quiet_next F S.core ho hl hdone hanc hdv S.core.hrel (S.core.env.putO hd' vrel_nothing), S.rest, S.cont, S.all⟩)
        · cases hv
      · -- the next effect
        have hord := (S.all i hlt).resolve_left hdone
        cases es with
        | nil => simp [restOrder] at hord
        | cons e es =>
          have hie : i = e.1 := by
            simp only [restOrder, List.mem_cons] at hord
            rcases hord with h | h
            · exact h
            · obtain ⟨heff, hgo⟩ := S.rest
              simp only [effOk, Bool.and_eq_true, Bool.not_eq_true'] at heff
              have hnot : e.1 ∉ done := fun hm => by rw [(memN_iff done e.1).2 hm] at heff; cases heff.1.1.1.2
              obtain ⟨x, hx, hxd⟩ := later_has qs es e.1 (e.1 :: done) done hgo hnot (fun y hy => List.mem_cons_of_mem _ hy) i h
              exact absurd (S.core.lsub x (hanc x hx)) hxd
          subst hie
          have henv := eff_env F S.core ho hdone hanc
          have hcont := S.cont
          simp only [restP, ho] at hcont
          rw [← looks_want henv] at hcont
          rcases aguard_want hcont with ⟨hw, hop⟩ | ⟨hw, hk⟩
          · rw [awant_sound S.core.env hn hw]
            simp only [if_true]
            rw [← aop_congr (looks_ev henv)] at hop
            refine .inl (aop_step hct S.core.hrel S.core.env hd hop ?_)
            rintro a' w' ⟨G', H', ρ', g1, g2, g3, g4, v, rfl, hk⟩
            obtain ⟨done', qs', ρ', S'⟩ := eff_next F S ho hanc hk g3 g4
            exact ih _ done' (some e.1) qs' es ρ' H' G' a' w' hsz' hcnt (hG.trans g1 hH) (Nat.le_trans hH g2) (by rw [lset_set hlt']; exact S')
          · rw [awant_sound S.core.env hn hw]
            simp only [Bool.false_eq_true, if_false]
            obtain ⟨done', qs', ρ', S'⟩ := eff_next F S ho hanc hk S.core.hrel (S.core.env.putO hd' vrel_nothing)
            exact ih _ done' (some e.1) qs' es ρ' H G _ w hsz' hcnt hG hH (by rw [lset_set hlt']; exact S')
    refine ⟨fun hr => ?_, hstep⟩
    -- nothing is ready: all is listed
    have hall : ∀ i, i < ops.size → lset listed i = true := by
      intro i
      induction i using Nat.strongRecOn with
      | _ i ihi =>
        intro hi
        cases h : lset listed i with
        | true => rfl
        | false =>
          have ho : ops[i]? = some ops[i] := Array.getElem?_eq_getElem hi
          have : i ∈ Region.ready .any ops listed := by
            refine mem_ready.2 ⟨?_, _, ho, fun e he hb => ?_⟩
            · have : i < listed.size := by omega
              simp [lset, this] at h ⊢; exact h
            · have hm := F.bind i _ ho e he hb
              obtain ⟨hlt, _⟩ := F.anc i _ ho e.on hm
              exact ihi e.on hlt (by omega)
          rw [hr] at this; cases this
    have hes : es = [] := by
      cases es with
      | nil => rfl
      | cons e es =>
        have hr := S.rest
        simp only [restOk, effOk, Bool.and_eq_true, Bool.not_eq_true'] at hr
        have hnot : e.1 ∉ done := fun hm => by rw [(memN_iff done e.1).2 hm] at hr; cases hr.1.1.1.1.2
        have hlt : e.1 < ops.size := by
          have := S.cont
          simp only [restP] at this
          cases ho : ops[e.1]? with
          | none => rw [ho] at this; exact this.elim
          | some o => exact (Array.getElem?_eq_some_iff.1 ho).1
        exact absurd (S.core.lsub e.1 (hall e.1 hlt)) hnot
    subst hes
    refine hQ a w ⟨G, H, ρ, hG, hH, S.core.hrel, erela_ext S.core.env fun t => ?_, S.cont⟩
    refine (hat_listed fun i hi e => ?_).symm
    rw [hall i (dst_lt e)] at hi; cases hi

/-- A region whose order is drawn: as its plan has it. -/
theorem draw_sound (hct : ct.Ok w0 P) (hm : P.follows .mixedOrders = true) (hn : opsOk N ops = true) (hp : planOk ops (plan ops) = true) {G : Gh} {H : AH} {ρ : Env} {a : Act} {w : World} {Q : Exit → Act → World → Prop}
    (hr : HRel w0 G H w) (he : ERelA G N ρ a) (h : adraw P ct ops K (plan ops).qs (plan ops).es ρ H) (hQ : ∀ a w, EPost w0 G H N K a w → Q .normal a w) (id : Nat) : (Code.region id ops true).wp P Q a w := by
  simp only [planOk, Bool.and_eq_true, List.all_eq_true, List.mem_range, memN_iff] at hp
  obtain ⟨⟨⟨⟨⟨h1, h2⟩, h3⟩, h4⟩, h5⟩, h6⟩ := hp
  have F := facts_of h1 h2 h3
  obtain ⟨q, qs', ρ', hqs, g1, g2, g3, g4, g5, g6⟩ := stage_run (ρ0 := ρ) F h4 (fun t _ => rfl) (fun j hj => by simp at hj) h
  refine wp_region_any hm ?_
  refine draw_any (ρ0 := ρ) (w0 := w0) (G0 := G) (H0 := H) hct hn F hQ ops.size _ (revA q []) none qs' (plan ops).es ρ' H G a _ (by simp) ?_ (.refl _ _) (Nat.le_refl _) ?_
  · unfold cnt
    exact Nat.le_trans List.countP_le_length (by simp)
  · have hl : ∀ i, lset (Array.replicate ops.size false) i = false := by
      intro i; simp only [lset, Array.getD_eq_getD_getElem?]
      by_cases hi : i < ops.size
      · simp [hi]
      · rw [Array.getElem?_eq_none (by simpa using hi)]; rfl
    have hmem : ∀ j, j ∈ revA q [] ↔ j ∈ q := fun j => by rw [mem_revA]; simp
    refine ⟨⟨fun i hi => (by rw [hl] at hi; cases hi), fun i hi => (by rw [hl] at hi; cases hi), g5, fun i hi _ => (g6 i ((hmem i).1 hi)).2.1, fun i hi _ => g4 i ((hmem i).1 hi), fun t ht => g3 t fun j hj => ht j ((hmem j).2 hj),
      hr.drew, erela_ext he fun t => ?_⟩, g1, g2, ?_⟩
    · rcases hat_cases (ops := ops) (L := lset (Array.replicate ops.size false)) t with ⟨x, hx, hxd⟩ | hno
      · exact hat_unlisted hx hxd
      · rw [hat_listed hno]
        exact g3 t fun j hj => hno j (hl j)
    · intro i hi
      have := h5 i hi
      rw [hqs] at this
      cases hes : (plan ops).es with
      | nil => rw [hes] at this; simp only [order] at this; exact .inl ((hmem i).2 this)
      | cons e es =>
        rw [hes] at this
        simp only [order, List.mem_append, List.mem_cons] at this
        rcases this with h | h
        · exact .inl ((hmem i).2 h)
        · exact .inr (by simp only [restOrder, List.mem_cons]; exact h)
end
end Go.Va
