/-
  A slice on an object of its own becomes a row that is never written again: a change of the view alone.
-/
import Derived.Test.YtfldcobcnlgapaaGreatDoorVaFn
set_option linter.unusedVariables false
set_option linter.unusedSimpArgs false
set_option linter.unnecessarySimpa false
namespace Go.Va
open Go.RowKit (Below)

/-- K, where an owned slice may count as a row. -/
def FrzK (K : AV → AH → Prop) (v : AV) (H : AH) : Prop :=
  K v H ∨ ∃ o off n cap cs sz es, v = .osl o off n cap ∧ H.get o = some (.cells cs) ∧ es.length = n ∧ (∀ (i : Nat) (e : AV), es[i]? = some e → e.cells.length = sz) ∧ 0 < sz ∧
    off + n * sz ≤ cs.length ∧ flat es = (cs.drop off).take (n * sz) ∧ K (.sl .stuck sz es) (H.kill o)
def frz (g : AFn) : AFn := fun args H K => g args H (FrzK K)

section
variable {w0 w : World} {P : Program} {G : Gh} {H : AH}
theorem HRel.freeze (hr : HRel w0 G H w) {o b : Nat} {cs : List AV} (ho : H.get o = some (.cells cs)) (hm : G.om o = some b) (p : Nat → Bool) (hp : ∀ i, p i = true → i < cs.length) :
    HRel w0 (G.addIm fun b' i => if b' = b ∧ p i = true then w.cell? ⟨b, i, none⟩ else none) (H.kill o) w := by
  obtain ⟨hbase, hobj⟩ := hr.obj o _ b ho hm
  have hget : ∀ o' y, (H.kill o).get o' = some y → o' ≠ o ∧ H.get o' = some y := by
    intro o' y hy
    simp only [AH.kill] at hy
    split at hy
    · cases hy
    · exact ⟨by assumption, hy⟩
  have hne : ∀ o' y b', (H.kill o).get o' = some y → G.om o' = some b' → b' ≠ b := fun o' y b' hy hb' e => by
    obtain ⟨h1, h2⟩ := hget o' y hy
    exact h1 (hr.inj o' o y _ b' h2 ho hb' (e ▸ hm))
  have hle : Gh.Le 0 G (G.addIm fun b' i => if b' = b ∧ p i = true then w.cell? ⟨b, i, none⟩ else none) := Gh.le_addIm _
  refine ⟨hr.below, ?_, ?_, hr.dom, ?_, ?_, ?_, ?_, hr.tinj, hr.tdom, hr.tblk, hr.htok⟩
  · intro o' y b' hy hb'
    obtain ⟨h1, h2⟩ := hget o' y hy
    obtain ⟨h3, h4⟩ := hr.obj o' y b' h2 hb'
    exact ⟨h3, h4.mono hle⟩
  · intro o1 o2 y1 y2 b' h1 h2 hb1 hb2
    exact hr.inj o1 o2 y1 y2 b' (hget _ _ h1).2 (hget _ _ h2).2 hb1 hb2
  · intro o' y hy; exact hr.hdom o' y (hget _ _ hy).2
  · intro b' i v hv
    simp only [Gh.addIm] at hv
    cases hi : G.im b' i with
    | some u => rw [hi] at hv; simp at hv; subst hv; exact hr.im b' i u hi
    | none =>
      rw [hi] at hv
      simp only [Option.none_or] at hv
      split at hv
      · rename_i e; obtain ⟨rfl, _⟩ := e; exact hv
      · cases hv
  · intro o' y b' i hy hb'
    have h1 := hne o' y b' hy hb'
    simp only [Gh.addIm, hr.imo o' y b' i (hget _ _ hy).2 hb', Option.none_or]
    rw [if_neg (fun e => h1 e.1)]
  · intro c l b' k s ht hce
    obtain ⟨h1, h3, h4⟩ := hr.tok c l b' k s ht hce
    have hb : b' ≠ b := fun e => h4 o _ ho (e ▸ hm)
    refine ⟨h1, fun i hk hs => ?_, fun o' y hy => h4 o' y (hget _ _ hy).2⟩
    obtain ⟨a1, a2, a3⟩ := h3 i hk hs
    refine ⟨a1, a2, ?_⟩
    simp only [Gh.addIm, a3, Option.none_or]
    rw [if_neg (fun e => hb e.1)]

theorem Post.frz {K : AV → AH → Prop} {v : Value} (h : Post w0 G H (FrzK K) v w) : Post w0 G H K v w := by
  obtain ⟨G1, H1, av, g1, g2, g3, g4, g5⟩ := h
  rcases g5 with g5 | ⟨o, off, n, cap, cs, sz, es, rfl, ho, hlen, hs, hpos, hle, hfl, k⟩
  · exact ⟨G1, H1, av, g1, g2, g3, g4, g5⟩
  · cases g4 with
    | osl off n cap hm hc =>
      rename_i b
      let p : Nat → Bool := fun i => decide (off ≤ i ∧ i < off + n * sz)
      have hp : ∀ i, p i = true → i < cs.length := fun i hi => by simp [p] at hi; omega
      have hr2 := g3.freeze ho hm p hp
      have hle2 : Gh.Le H.next G1 (G1.addIm fun b' i => if b' = b ∧ p i = true then w.cell? ⟨b, i, none⟩ else none) := Gh.le_addIm _
      have hle0 : Gh.Le 0 G1 (G1.addIm fun b' i => if b' = b ∧ p i = true then w.cell? ⟨b, i, none⟩ else none) := Gh.le_addIm _
      refine ⟨_, H1.kill o, .sl .stuck sz es, g1.trans hle2 (Nat.le_refl _), g2, hr2, ?_, k⟩
      have key : ∀ (i : Nat) (e : AV) (j : Nat) (c : AV), es[i]? = some e → e.cells[j]? = some c → ∃ v, w.cell? ⟨b, off + i * sz + j, none⟩ = some v ∧ VRel G1 c v ∧ p (off + i * sz + j) = true := by
        intro i e j c hi hj
        have h1 := flat_at es hs i e j c hi hj
        have hil := (List.getElem?_eq_some_iff.1 hi).1
        have hjl := (List.getElem?_eq_some_iff.1 hj).1
        rw [hs i e hi] at hjl
        have hmul : (i + 1) * sz ≤ n * sz := Nat.mul_le_mul_right _ (by omega)
        rw [Nat.add_mul] at hmul
        rw [hfl, List.getElem?_take_of_lt (by omega), List.getElem?_drop, ← Nat.add_assoc] at h1
        obtain ⟨v, e1, _, e3⟩ := g3.getElem_cells ho hm h1
        exact ⟨v, e1, e3, by simp [p]; omega⟩
      rw [← hlen]
      refine .sl (fun i j => (w.cell? ⟨b, off + i * sz + j, none⟩).getD undef) (by omega) trivial hs ?_ ?_
      · intro i e j c hi hj
        obtain ⟨v, e1, e2, e3⟩ := key i e j c hi hj
        have hn := g3.imo o _ b (off + i * sz + j) ho hm
        simp only [Gh.addIm, hn, Option.none_or, e1, e3, and_self, if_true, Option.getD_some]
      · intro i e j c hi hj
        obtain ⟨v, e1, e2, e3⟩ := key i e j c hi hj
        simp only [e1, Option.getD_some]
        exact e2.mono hle0
theorem FnOk.frz {f : FuncId} {g : AFn} (h : FnOk w0 P f g) : FnOk w0 P f (Va.frz g) :=
  ⟨h.1, fun args H K hk G w vs hr hs hv => Calls.mono (h.2 args H _ hk G w vs hr hs hv) fun e w' ⟨v, he, hp⟩ => ⟨v, he, hp.frz⟩⟩
end
end Go.Va
