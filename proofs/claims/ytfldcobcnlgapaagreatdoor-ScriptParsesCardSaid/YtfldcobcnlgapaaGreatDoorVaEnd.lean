/-
  From the plain view to a call in whatever memory.
-/
import Derived.Test.YtfldcobcnlgapaaGreatDoorVaFn
namespace Go.Va
open Go.RowKit (Below)
def G00 : Gh := ⟨fun _ => none, fun _ _ => none, fun _ => none⟩
def H00 : AH := ⟨fun _ => none, fun _ => none, 0⟩
theorem hrel00 (W : World) : HRel W G00 H00 W :=
  ⟨Below.refl _ _, (fun _ _ _ h => by cases h), (fun _ _ _ _ _ h => by cases h), (fun _ _ h => by cases h), (fun _ _ h => by cases h), (fun _ _ _ h => by cases h), (fun _ _ _ _ h => by cases h),
   (fun _ _ _ _ _ h => by cases h), (fun _ _ _ _ _ _ _ _ _ h => by cases h), (fun _ _ h => by cases h), (fun _ _ _ _ h => by cases h), (fun _ _ h => by cases h)⟩
/-- A function whose answer is true for arguments that name no memory. -/
theorem calls_true {P : Program} {f : FuncId} {g : AFn} {W : World} (h : FnOk W P f g) {args : List AV} {vs : Array Value} (hs : vs.size = args.length)
    (hv : ∀ (i : Nat) (a : AV) (v : Value), args[i]? = some a → vs[i]? = some v → VRel G00 a v) (hg : g args H00 fun v _ => v = .bool true) :
    Calls P f vs W fun e w' => e = .returned (.bool true) ∧ Below W.heap.size W w' := by
  refine (h.2 args H00 _ hg G00 W vs (hrel00 W) hs hv).mono fun e w' ⟨v, he, hp⟩ => ?_
  obtain ⟨G', H', av, _, _, hr, hvr, rfl⟩ := hp
  cases hvr
  exact ⟨he, hr.below⟩
end Go.Va
