/-
  From the plain view to a call whose arguments lie in memory.
-/
import Derived.Test.YtfldcobcnlgapaaGreatDoorVaEnd
import Derived.Test.YtfldcobcnlgapaaGreatDoorCtSplitPk
import Derived.ProofKit
set_option linter.unusedVariables false
namespace Go.Va
open Go.RowKit Go.ChangeShapes Go.WideShapes Go.ChangeMaps
/-- memory that a call does not write: all of it is known -/
def GW (W : World) : Gh := ⟨fun _ => none, fun b i => W.cell? ⟨b, i, none⟩, fun _ => none⟩
theorem hrelW (W : World) : HRel W (GW W) H00 W :=
  ⟨Below.refl _ _, (fun _ _ _ h => by cases h), (fun _ _ _ _ _ h => by cases h), (fun _ _ h => by cases h), (fun _ _ h => by cases h), (fun _ _ _ h => h), (fun _ _ _ _ h => by cases h),
   (fun _ _ _ _ _ h => by cases h), (fun _ _ _ _ _ _ _ _ _ h => by cases h), (fun _ _ h => by cases h), (fun _ _ _ _ h => by cases h), (fun _ _ h => by cases h)⟩
theorem calls_trueW {P : Program} {f : FuncId} {g : AFn} {W : World} (h : FnOk W P f g) {args : List AV} {vs : Array Value} (hs : vs.size = args.length)
    (hv : ∀ (i : Nat) (a : AV) (v : Value), args[i]? = some a → vs[i]? = some v → VRel (GW W) a v) (hg : g args H00 fun v _ => v = .bool true) :
    Calls P f vs W fun e w' => e = .returned (.bool true) ∧ Below W.heap.size W w' := by
  refine (h.2 args H00 _ hg (GW W) W vs (hrelW W) hs hv).mono fun e w' ⟨v, he, hp⟩ => ?_
  obtain ⟨G', H', av, _, _, hr, hvr, rfl⟩ := hp
  cases hvr
  exact ⟨he, hr.below⟩
section
variable {H : Type} {enc : TypeId × Value → H} {P : Program} {W : World}
theorem vrel_string {G : Gh} (s : ByteArray) : VRel G (.str s.data.toList) (.string s) := by
  have := VRel.str (G := G) s.data.toList
  rwa [Array.toArray_toList] at this
theorem open_Ints {t e : TypeId} {k : IntKind} {v : Value} {d : DataW H} {p : List MemPlace} (ht : P.underlying t = some (.slice e)) (he : P.underlying e = some (.int k)) (hc : P.cellsOf e = 1)
    (hval : Value.okWide P W .any 0 t v) (hd : DataW.Trod enc P W 0 (fun _ => true) true t v d p) : ∃ (av : AV) (zs : List Int), IsSl 1 (fun n => .int k n) av zs ∧ VRel (GW W) av v := by
  obtain ⟨a0, len, cap, rfl⟩ := okWide_slice ht hval
  obtain ⟨fuel, hf⟩ := hd
  rcases open_ints ht he hc hf with ⟨hcs, _⟩ | ⟨a, len', cap', zs, hcs, _, hl, hm, hz, _, hcell, _⟩
  · simp [Value.cells] at hcs
    obtain ⟨rfl, rfl, rfl⟩ := hcs
    exact ⟨.nils, [], .inl ⟨rfl, rfl⟩, .nils⟩
  · simp [Value.cells] at hcs
    obtain ⟨rfl, rfl, rfl⟩ := hcs
    simp only [if_true] at hz
    have hsp : a.spot = none := by
      simp only [Value.okWide, ht, Cell.okWide, Cell.ok] at hval
      exact hval.2.2.2.1
    obtain ⟨b, off, sp⟩ := a
    simp only at hsp; subst hsp
    refine ⟨.sl .stuck 1 ((zs.take len).map fun n => .int k n), zs.take len, .inr ⟨_, rfl⟩, ?_⟩
    have hlen : ((zs.take len).map fun n => AV.int k n).length = len := by simp; omega
    have key : ∀ (i : Nat) (e : AV), ((zs.take len).map fun n => AV.int k n)[i]? = some e → i < len ∧ e = .int k (zs.getD i 0) := by
      intro i e hi
      rw [List.getElem?_map] at hi
      obtain ⟨n, hn, rfl⟩ := Option.map_eq_some_iff.1 hi
      rw [List.getElem?_take] at hn
      split at hn
      · rename_i hlt
        refine ⟨hlt, ?_⟩
        rw [List.getD, hn]; rfl
      · cases hn
    have hvr := VRel.sl (G := GW W) (g := .stuck) (sz := 1) (es := (zs.take len).map fun n => AV.int k n) (b := b) (off := off) (cap := cap) (fun i _ => .int k (zs.getD i 0)) (by omega) trivial
      (fun i e hi => by rw [(key i e hi).2]; rfl)
      (fun i e j c hi hj => by
        obtain ⟨h1, rfl⟩ := key i e hi
        have hj0 : j = 0 := by
          match j, hj with
          | 0, _ => rfl
          | j + 1, hj => simp [AV.cells] at hj
        subst hj0
        have := hcell i (by omega)
        show W.cell? _ = _
        rw [← this]
        simp only [Addr.add, Nat.mul_one, Nat.add_zero]
        split
        · rename_i h0; subst h0; rfl
        · rfl)
      (fun i e j c hi hj => by
        obtain ⟨h1, rfl⟩ := key i e hi
        have hj0 : j = 0 := by
          match j, hj with
          | 0, _ => rfl
          | j + 1, hj => simp [AV.cells] at hj
        subst hj0
        simp only [AV.cells, List.getElem?_cons_zero, Option.some.injEq] at hj
        subst hj
        exact .int _ _)
    rw [hlen] at hvr
    exact hvr
theorem trodAll_stays (hl : laidOutB P = true) {W' : World} (hb : Below W.heap.size W W') : ∀ {ts : List TypeId} {vs : List Value} {ds : List (DataW H)} {p : List MemPlace},
    (ts.all fun t => P.readableRec t && decide (t < P.types.size)) = true → DataW.TrodAll enc P W 0 (fun _ => true) true ts vs ds p → (∀ x ∈ p, x.block < W.heap.size) →
    DataW.TrodAll enc P W' 0 (fun b => decide (b < W.heap.size)) true ts vs ds p
  | [], vs, ds, p, _, h, _ => by
    cases vs <;> cases ds <;> simp_all [DataW.TrodAll]
  | t :: ts, vs, ds, p, ha, h, hlt => by
    obtain ⟨v, vs', d, ds', q, r, rfl, rfl, rfl, h1, h2⟩ := trodAll_cons h
    simp only [List.all_cons, Bool.and_eq_true, decide_eq_true_eq] at ha
    exact ⟨q, r, Below.trod hl ha.1.1 ha.1.2 h1 hb (fun x hx => hlt x (by simp [hx])), trodAll_stays hl hb (by simpa using ha.2) h2 (fun x hx => hlt x (by simp [hx])), rfl⟩
end
end Go.Va
