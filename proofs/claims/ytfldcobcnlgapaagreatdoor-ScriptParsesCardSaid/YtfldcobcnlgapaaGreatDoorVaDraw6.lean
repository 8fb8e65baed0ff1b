/-
  Regions whose order is drawn, over the plain view, where effects stand in no order: all their orders are asked.
-/
import Derived.Test.YtfldcobcnlgapaaGreatDoorVaDraw5
set_option linter.unusedVariables false
set_option linter.unusedSimpArgs false
set_option linter.unnecessarySimpa false
namespace Go.Va
open Go.RowKit (Below)

/-- the quiet operations that may be done next, one behind the other -/
def quietsOf (ops : Array Oper) (A : List (List Nat)) : List Nat → List Nat → List Nat
  | [], _ => []
  | i :: r, done => bif isQat ops i && !memN done i && (nth A i).all (memN done) then i :: quietsOf ops A r (i :: done) else quietsOf ops A r done
/-- the effects that may come next -/
def cands (ops : Array Oper) (A : List (List Nat)) (done : List Nat) : List Nat :=
  (List.range ops.size).filter fun i => !isQat ops i && !memN done i && (nth A i).all (memN done)
/-- what looks at memory and may come behind e -/
def lates (ops : Array Oper) (A : List (List Nat)) (done : List Nat) (e : Nat) : List Nat := done.filter fun i => looksHat ops i && !memN (nth A e) i
def allE : List Nat → (Nat → Prop) → Prop
  | [], _ => True
  | [e], p => p e
  | e :: r, p => p e ∧ allE r p
theorem allE_mem : ∀ (l : List Nat) (p : Nat → Prop), allE l p → ∀ e ∈ l, p e
  | [], p, _, e, h => by simp at h
  | [x], p, h, e, he => by simp at he; subst he; exact h
  | x :: y :: r, p, h, e, he => by
    obtain ⟨h1, h2⟩ := h
    simp only [List.mem_cons] at he
    rcases he with rfl | he
    · exact h1
    · exact allE_mem (y :: r) p h2 e (by simpa using he)
def iff' (b : Bool) (p : Prop) : Prop := match b with
  | true => p
  | false => False
theorem iff'_ok {b : Bool} {p : Prop} (h : iff' b p) : b = true ∧ p := by
  cases b with
  | true => exact ⟨rfl, h⟩
  | false => exact h.elim

def adrawD (P : Program) (ct : Table) (ops : Array Oper) (A : List (List Nat)) (K : Env → AH → Prop) : Nat → List Nat → Env → AH → Prop
  | 0, _, _, _ => False
  | f + 1, done, ρ, H =>
    aqK P ops (quietsOf ops A (List.range ops.size) done) ρ H fun ρ1 =>
      match cands ops A (revA (quietsOf ops A (List.range ops.size) done) done) with
      | [] => iff' ((List.range ops.size).all (memN (revA (quietsOf ops A (List.range ops.size) done) done))) (K ρ1 H)
      | c :: cs => allE (c :: cs) fun e => match ops[e]? with
        | some o => iff' ((revA (quietsOf ops A (List.range ops.size) done) done).all (lateOk ops A (e, lates ops A (revA (quietsOf ops A (List.range ops.size) done) done) e)))
            (aguard (awant ops ρ1 o.guard) (fun k => aop P ct o.op ρ1 H k) H fun v H' =>
              agains P ops ρ1 H' (lates ops A (revA (quietsOf ops A (List.range ops.size) done) done) e) (adrawD P ct ops A K f (e :: revA (quietsOf ops A (List.range ops.size) done) done) (ρ1.putO o.dst v) H'))
        | none => False
def freeOk (ops : Array Oper) : Bool := looksOk ops (ancs ops.toList) && dstsOk ops && ancOk ops (ancs ops.toList)

section
variable {P : Program} {ct : Table} {ops : Array Oper} {A : List (List Nat)} {ρ0 : Env} {N : Nat} {K : Env → AH → Prop} {w0 : World} {H0 : AH} {G0 : Gh}

theorem quietsOf_ok : ∀ (l done : List Nat), quietsOk ops A none done (quietsOf ops A l done) = true
  | [], done => rfl
  | i :: r, done => by
    unfold quietsOf
    cases hb : (isQat ops i && !memN done i && (nth A i).all (memN done)) with
    | false => simpa using quietsOf_ok r done
    | true =>
      simp only [cond_true]
      unfold quietsOk
      simp only [Bool.and_eq_true] at hb
      simp [hb.1.1, hb.1.2, hb.2, behind, quietsOf_ok r (i :: done)]
/-- all that may be done is done -/
theorem quietsOf_full : ∀ (l done : List Nat) (i : Nat), i ∈ l → isQat ops i = true → (∀ j ∈ nth A i, j ∈ done) → i ∈ revA (quietsOf ops A l done) done
  | [], done, i, hi, _, _ => by simp at hi
  | x :: r, done, i, hi, hq, hd => by
    unfold quietsOf
    have mono : ∀ q : List Nat, ∀ y, y ∈ done → y ∈ revA q done := fun q y hy => (mem_revA q done y).2 (.inr hy)
    by_cases hm : i ∈ done
    · exact mono _ i hm
    cases hb : (isQat ops x && !memN done x && (nth A x).all (memN done)) with
    | false =>
      simp only [cond_false]
      simp only [List.mem_cons] at hi
      rcases hi with rfl | hi
      · exfalso
        have h1 : memN done i = false := by
          cases h : memN done i with
          | false => rfl
          | true => exact absurd ((memN_iff done i).1 h) hm
        have h2 : (nth A i).all (memN done) = true := by simp only [List.all_eq_true, memN_iff]; exact hd
        rw [hq, h1, h2] at hb; cases hb
      · exact quietsOf_full r done i hi hq hd
    | true =>
      simp only [cond_true, revA]
      by_cases hx : i = x
      · subst hx; exact (mem_revA _ _ _).2 (.inr (by simp))
      · simp only [List.mem_cons, hx, false_or] at hi
        exact quietsOf_full r (x :: done) i hi hq fun j hj => List.mem_cons_of_mem _ (hd j hj)

/-- the rest, at a choice of the next effect -/
def restD (P : Program) (ct : Table) (ops : Array Oper) (A : List (List Nat)) (K : Env → AH → Prop) (f : Nat) (done : List Nat) (ρ : Env) (H : AH) : Prop :=
  match cands ops A done with
  | [] => iff' ((List.range ops.size).all (memN done)) (K ρ H)
  | c :: cs => allE (c :: cs) fun e => match ops[e]? with
    | some o => iff' (done.all (lateOk ops A (e, lates ops A done e)))
        (aguard (awant ops ρ o.guard) (fun k => aop P ct o.op ρ H k) H fun v H' => agains P ops ρ H' (lates ops A done e) (adrawD P ct ops A K f (e :: done) (ρ.putO o.dst v) H'))
    | none => False

structure DStD (P : Program) (ct : Table) (ops : Array Oper) (A : List (List Nat)) (ρ0 : Env) (N : Nat) (K : Env → AH → Prop) (w0 : World)
    (L : Nat → Bool) (done : List Nat) (f : Nat) (ρ : Env) (H : AH) (G : Gh) (a : Act) (w : World) : Prop where
  core : DCore P ops A ρ0 N w0 L done ρ H G a w
  cont : restD P ct ops A K f done ρ H
  full : ∀ i, i < ops.size → isQat ops i = true → (∀ j ∈ nth A i, j ∈ done) → i ∈ done

theorem quiets_full (F : Facts ops A) {q done : List Nat} (hq : q = quietsOf ops A (List.range ops.size) done) (hd : ∀ j ∈ revA q done, ∀ x ∈ nth A j, x ∈ revA q done) :
    ∀ i, i < ops.size → isQat ops i = true → (∀ j ∈ nth A i, j ∈ revA q done) → i ∈ revA q done := by
  subst hq
  -- in the order of the numbers, each comes behind those that it needs
  have key : ∀ (n : Nat) (l done : List Nat), l = (List.range ops.size).drop (ops.size - n) → n ≤ ops.size →
      ∀ i, i < ops.size → ops.size - n ≤ i → isQat ops i = true → (∀ j ∈ nth A i, j ∈ revA (quietsOf ops A l done) done) → i ∈ revA (quietsOf ops A l done) done := by
    intro n
    induction n with
    | zero => intro l done hl hn i hi hge; omega
    | succ n ih =>
      intro l done hl hn i hi hge hqi hanc
      have hl' : l = (ops.size - (n + 1)) :: (List.range ops.size).drop (ops.size - n) := by
        rw [hl, List.drop_eq_getElem_cons (by simp; omega)]
        congr 1
        · simp
        · congr 1; omega
      subst hl'
      -- what is done behind the head
      by_cases hx : i = ops.size - (n + 1)
      · -- the head itself: those that it needs have smaller numbers, so they are done already
        refine quietsOf_full _ _ i (by rw [hx]; simp) hqi fun j hj => ?_
        have hlt : j < i := by
          have ho : ops[i]? = some ops[i] := Array.getElem?_eq_getElem hi
          exact (F.anc i _ ho j hj).1
        have hm := hanc j hj
        rw [mem_revA] at hm
        rcases hm with hm | hm
        · exfalso
          have : ∀ (l d : List Nat) (y : Nat), y ∈ quietsOf ops A l d → y ∈ l := by
            intro l
            induction l with
            | nil => intro d y h; simp [quietsOf] at h
            | cons z l ihl =>
              intro d y h
              unfold quietsOf at h
              cases hb : (isQat ops z && !memN d z && (nth A z).all (memN d)) with
              | false => rw [hb] at h; exact List.mem_cons_of_mem _ (ihl d y (by simpa using h))
              | true =>
                rw [hb] at h
                simp only [cond_true, List.mem_cons] at h
                rcases h with rfl | h
                · simp
                · exact List.mem_cons_of_mem _ (ihl _ y h)
          have hmem := this _ _ j hm
          simp only [List.mem_cons] at hmem
          rcases hmem with h | h
          · omega
          · obtain ⟨k, hk, he⟩ := List.mem_iff_getElem.1 h
            simp at he hk
            omega
        · exact hm
      · unfold quietsOf at hanc ⊢
        cases hb : (isQat ops (ops.size - (n + 1)) && !memN done (ops.size - (n + 1)) && (nth A (ops.size - (n + 1))).all (memN done)) with
        | false =>
          rw [hb] at hanc
          simp only [cond_false] at hanc ⊢
          exact ih _ done rfl (by omega) i hi (by omega) hqi hanc
        | true =>
          rw [hb] at hanc
          simp only [cond_true, revA] at hanc ⊢
          exact ih _ _ rfl (by omega) i hi (by omega) hqi hanc
  intro i hi hqi hanc
  exact key ops.size _ done (by simp) (Nat.le_refl _) i hi (by omega) hqi hanc

theorem draw_anyD (hct : ct.Ok w0 P) (hn : opsOk N ops = true) (F : Facts ops A) {Q : Exit → Act → World → Prop} (hQ : ∀ a w, EPost w0 G0 H0 N K a w → Q .normal a w) :
    ∀ (fuel : Nat) (listed : Array Bool) (done : List Nat) (f : Nat) (ρ : Env) (H : AH) (G : Gh) (a : Act) (w : World),
      listed.size = ops.size → cnt ops (lset listed) ≤ fuel → Gh.Le H0.next G0 G → H0.next ≤ H.next → DStD P ct ops A ρ0 N K w0 (lset listed) done f ρ H G a w → wpAny P .any ops Q fuel listed a w := by
  -- where all is listed
  have over : ∀ (listed : Array Bool) (done : List Nat) (f : Nat) (ρ : Env) (H : AH) (G : Gh) (a : Act) (w : World), Gh.Le H0.next G0 G → H0.next ≤ H.next →
      DStD P ct ops A ρ0 N K w0 (lset listed) done f ρ H G a w → (∀ i, i < ops.size → lset listed i = true) → Q .normal a w := by
    intro listed done f ρ H G a w hG hH S hall
    have hc : cands ops A done = [] := by
      cases hc : cands ops A done with
      | nil => rfl
      | cons c cs =>
        have hm : c ∈ cands ops A done := by rw [hc]; simp
        simp only [cands, List.mem_filter, List.mem_range, Bool.and_eq_true, Bool.not_eq_true'] at hm
        have := S.core.lsub c (hall c hm.1)
        rw [(memN_iff done c).2 this] at hm
        cases hm.2.1.2
    have hcont := S.cont
    unfold restD at hcont
    rw [hc] at hcont
    obtain ⟨_, hk⟩ := iff'_ok hcont
    refine hQ a w ⟨G, H, ρ, hG, hH, S.core.hrel, erela_ext S.core.env fun t => ?_, hk⟩
    refine (hat_listed fun i hi e => ?_).symm
    rw [hall i (dst_lt e)] at hi; cases hi
  intro fuel
  induction fuel with
  | zero =>
    intro listed done f ρ H G a w hsz hc hG hH S
    have hall : ∀ i, i < ops.size → lset listed i = true := by
      intro i hi
      cases h : lset listed i with
      | true => rfl
      | false => have := cnt_list hi h; omega
    have hnone : Region.ready .any ops listed = [] := by
      cases hr : Region.ready .any ops listed with
      | nil => rfl
      | cons j l =>
        obtain ⟨h1, o, ho, _⟩ := mem_ready.1 (show j ∈ Region.ready .any ops listed by rw [hr]; simp)
        have hj := (Array.getElem?_eq_some_iff.1 ho).1
        have h2 := hall j hj
        have h3 : j < listed.size := by omega
        simp [lset, h3] at h1 h2
        rw [h1] at h2; cases h2
    exact ⟨hnone, over listed done f ρ H G a w hG hH S hall⟩
  | succ fuel ih =>
    intro listed done f ρ H G a w hsz hc hG hH S
    have hstep : ∀ i ∈ Region.ready .any ops listed, wpOp P ops Q i (wpAny P .any ops Q fuel (listed.setIfInBounds i true)) a w := by
      intro i hi
      obtain ⟨hun, o, ho, hb⟩ := mem_ready.1 hi
      have hlt := (Array.getElem?_eq_some_iff.1 ho).1
      have hlt' : i < listed.size := by omega
      have hl : lset listed i = false := by simp [lset, hlt'] at hun ⊢; exact hun
      have hanc := ready_anc F S.core.lclosed ho (fun e he hbb => hb e he hbb)
      have hd : dstOk N o = true := Array.all_eq_true_iff_forall_mem.1 hn o (Array.mem_of_getElem? ho)
      have hd' : ∀ x, o.dst = some x → x < N := by intro x hx; simpa [dstOk, hx] using hd
      have hcnt : cnt ops (lset (listed.setIfInBounds i true)) ≤ fuel := by rw [lset_set hlt']; have := cnt_list hlt hl; omega
      have hsz' : (listed.setIfInBounds i true).size = ops.size := by simpa using hsz
      unfold wpOp
      rw [ho]
      simp only
      by_cases hdone : i ∈ done
      · obtain ⟨o', v, ho', hv, hdv⟩ := S.core.pend i hdone hl
        rw [ho] at ho'; cases ho'
        have henv := quiet_env F S.core ho hl hdone hanc
        rw [← qval_congr henv] at hv
        unfold qval at hv
        split at hv
        · rename_i hw
          rw [awant_sound S.core.env hn hw]
          simp only [if_true]
          refine .inl (aop_step hct S.core.hrel S.core.env hd (aq_at (ct := ct) hv (K := fun v' H' => v' = v ∧ H' = H) ⟨rfl, rfl⟩) ?_)
          rintro a' w' ⟨G', H', ρ', g1, g2, g3, g4, v', rfl, rfl, rfl⟩
          exact ih _ done f ρ H' G' a' w' hsz' hcnt (hG.trans g1 hH) hH (by rw [lset_set hlt']; exact ⟨quiet_next F S.core ho hl hdone hanc hdv g3 g4, S.cont, S.full⟩)
        · rename_i hw
          cases hv
          rw [awant_sound S.core.env hn hw]
          simp only [Bool.false_eq_true, if_false]
          exact ih _ done f ρ H G _ w hsz' hcnt hG hH (by
            rw [lset_set hlt']
            exact ⟨quiet_next F S.core ho hl hdone hanc hdv S.core.hrel (S.core.env.putO hd' vrel_nothing), S.cont, S.full⟩)
        · cases hv
      · have hancd : ∀ j ∈ nth A i, j ∈ done := fun j hj => S.core.lsub j (hanc j hj)
        have hnq : isQat ops i = false := by
          cases h : isQat ops i with
          | false => rfl
          | true => exact absurd (S.full i hlt h hancd) hdone
        have hcand : i ∈ cands ops A done := by
          simp only [cands, List.mem_filter, List.mem_range, Bool.and_eq_true, Bool.not_eq_true', List.all_eq_true, memN_iff]
          refine ⟨hlt, ⟨hnq, ?_⟩, hancd⟩
          cases h : memN done i with
          | false => rfl
          | true => exact absurd ((memN_iff done i).1 h) hdone
        have hcont := S.cont
        unfold restD at hcont
        cases hcs : cands ops A done with
        | nil => rw [hcs] at hcand; simp at hcand
        | cons c cs =>
          rw [hcs] at hcont hcand
          have hi' := allE_mem _ _ hcont i hcand
          rw [ho] at hi'
          obtain ⟨hlate, hcont⟩ := iff'_ok hi'
          simp only [List.all_eq_true] at hlate
          have henv := eff_env F S.core ho hdone hanc
          rw [← looks_want henv] at hcont
          -- behind the effect
          have behind_ : ∀ v H' G' a' w', agains P ops ρ H' (lates ops A done i) (adrawD P ct ops A K f (i :: done) (ρ.putO o.dst v) H') → HRel w0 G' H' w' → ERelA G' N ((hat ops (lset listed) ρ0 ρ).putO o.dst v) a' →
              Gh.Le H0.next G0 G' → H0.next ≤ H'.next → wpAny P .any ops Q fuel (listed.setIfInBounds i true) a' w' := by
            intro v H' G' a' w' hk g3 g4 hG' hH'
            obtain ⟨hdraw, hagain⟩ := agains_all _ _ hk
            cases f with
            | zero => simp only [adrawD] at hdraw
            | succ f =>
              simp only [adrawD] at hdraw
              obtain ⟨ρ', r1, r2, r3, r4, r5⟩ := quiets_run (ρ0 := ρ0) F none (quietsOf ops A (List.range ops.size) (i :: done)) (i :: done) (ρ.putO o.dst v) _ (quietsOf_ok _ _)
                (by
                  intro t ht
                  rw [putO_ne ho (ht i (by simp))]
                  exact S.core.frame t fun j hj => ht j (by simp [hj]))
                (by
                  intro j hj x hx
                  simp only [List.mem_cons] at hj
                  rcases hj with rfl | hj
                  · exact List.mem_cons_of_mem _ (hancd x hx)
                  · exact List.mem_cons_of_mem _ (S.core.dclosed j hj x hx)) hdraw
              refine ih _ (revA (quietsOf ops A (List.range ops.size) (i :: done)) (i :: done)) f ρ' H' G' a' w' hsz' hcnt hG' hH' ?_
              rw [lset_set hlt']
              exact ⟨eff_core (e := (i, lates ops A done i)) F S.core ho hdone hanc hlate hagain g3 g4 r2 r3 r4 r5, r1, quiets_full (done := i :: done) F rfl r4⟩
          rcases aguard_want hcont with ⟨hw, hop⟩ | ⟨hw, hk⟩
          · rw [awant_sound S.core.env hn hw]
            simp only [if_true]
            rw [← aop_congr (looks_ev henv)] at hop
            refine .inl (aop_step hct S.core.hrel S.core.env hd hop ?_)
            rintro a' w' ⟨G', H', ρ', g1, g2, g3, g4, v, rfl, hk⟩
            exact behind_ v H' G' a' w' hk g3 g4 (hG.trans g1 hH) (Nat.le_trans hH g2)
          · rw [awant_sound S.core.env hn hw]
            simp only [Bool.false_eq_true, if_false]
            exact behind_ nothing H G _ w hk S.core.hrel (S.core.env.putO hd' vrel_nothing) hG hH
    refine ⟨fun hr => ?_, hstep⟩
    refine over listed done f ρ H G a w hG hH S ?_
    intro i
    induction i using Nat.strongRecOn with
    | _ i ihi =>
      intro hi
      cases h : lset listed i with
      | true => rfl
      | false =>
        have ho : ops[i]? = some ops[i] := Array.getElem?_eq_getElem hi
        have : i ∈ Region.ready .any ops listed := by
          refine mem_ready.2 ⟨?_, _, ho, fun e he hb => ?_⟩
          · have : i < listed.size := by omega
            simp [lset, this] at h ⊢; exact h
          · have hm := F.bind i _ ho e he hb
            obtain ⟨hlt, _⟩ := F.anc i _ ho e.on hm
            exact ihi e.on hlt (by omega)
        rw [hr] at this; cases this

/-- A region whose order is drawn: in all orders of its effects. -/
theorem drawD_sound (hct : ct.Ok w0 P) (hm : P.follows .mixedOrders = true) (hn : opsOk N ops = true) (hp : freeOk ops = true) {f : Nat} {G : Gh} {H : AH} {ρ : Env} {a : Act} {w : World} {Q : Exit → Act → World → Prop}
    (hr : HRel w0 G H w) (he : ERelA G N ρ a) (h : adrawD P ct ops (ancs ops.toList) K f [] ρ H) (hQ : ∀ a w, EPost w0 G H N K a w → Q .normal a w) (id : Nat) : (Code.region id ops true).wp P Q a w := by
  simp only [freeOk, Bool.and_eq_true] at hp
  have F := facts_of hp.1.1 hp.1.2 hp.2
  cases f with
  | zero => simp only [adrawD] at h
  | succ f =>
    simp only [adrawD] at h
    obtain ⟨ρ', r1, r2, r3, r4, r5⟩ := quiets_run (ρ0 := ρ) F none (quietsOf ops (ancs ops.toList) (List.range ops.size) []) [] ρ _ (quietsOf_ok _ _) (fun t _ => rfl) (fun j hj => by simp at hj) h
    refine wp_region_any hm ?_
    have hl : ∀ i, lset (Array.replicate ops.size false) i = false := by
      intro i; simp only [lset, Array.getD_eq_getD_getElem?]
      by_cases hi : i < ops.size
      · simp [hi]
      · rw [Array.getElem?_eq_none (by simpa using hi)]; rfl
    refine draw_anyD (ρ0 := ρ) (w0 := w0) (G0 := G) (H0 := H) hct hn F hQ ops.size _ (revA (quietsOf ops (ancs ops.toList) (List.range ops.size) []) []) f ρ' H G a _ (by simp) ?_ (.refl _ _) (Nat.le_refl _) ⟨⟨fun i hi => (by rw [hl] at hi; cases hi), fun i hi => (by rw [hl] at hi; cases hi), r4, ?_, ?_, ?_, hr.drew, erela_ext he fun t => ?_⟩, r1, quiets_full (done := []) F rfl r4⟩
    · unfold cnt
      exact Nat.le_trans List.countP_le_length (by simp)
    · intro i hi _; exact (r5 i (by simpa [mem_revA] using hi)).2.1
    · intro i hi _; exact r3 i (by simpa [mem_revA] using hi)
    · intro t ht; exact r2 t fun j hj => ht j (by simp [mem_revA, hj])
    · rcases hat_cases (ops := ops) (L := lset (Array.replicate ops.size false)) t with ⟨x, hx, hxd⟩ | hno
      · exact hat_unlisted hx hxd
      · rw [hat_listed hno]
        exact r2 t fun j hj => hno j (hl j)
end
end Go.Va
