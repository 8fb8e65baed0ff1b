/-
  Parts of slices and strings, appends, lengths, conversions between strings and bytes.
-/
import Derived.Test.YtfldcobcnlgapaaGreatDoorVaMem2
import Derived.Lib.Strings
set_option linter.unusedVariables false
set_option linter.unusedSimpArgs false
set_option linter.unnecessarySimpa false
namespace Go.Va
open Go.RowKit (Below)
section
variable {P : Program} {w0 w : World} {G : Gh} {H : AH}

-- ---------------------------------------------------------------- parts
/-- a bound of a slice expression: absent (then d), or a number from 0 to top -/
def abound (d top : Nat) : Option AV → Option Nat
  | none => some d
  | some (.int _ n) => if 0 ≤ n ∧ n ≤ (top : Int) then some n.toNat else none
  | _ => none
def sliceStr (x : AV) (lo hi mx : Option AV) : Option AV :=
  match x, mx with
  | .str s, none => (abound s.length s.length hi).bind fun h => (abound 0 h lo).map fun l => .str ((s.take h).drop l)
  | _, _ => none
def sliceSl (sz0 : Nat) (x : AV) (lo hi mx : Option AV) : Option AV :=
  match x, mx with
  | .sl g sz es, none =>
    if sz = sz0 then (abound es.length es.length hi).bind fun h => (abound 0 h lo).map fun l => .sl (if h = es.length then g else .stuck) sz ((es.take h).drop l) else none
  | .sl _ sz es, some m =>
    if sz = sz0 ∧ hi.isSome = true then (abound 0 es.length (some m)).bind fun m => (abound es.length m hi).bind fun h => (abound 0 h lo).bind fun l => if h = m then some (.sl .full sz ((es.take h).drop l)) else none else none
  | .osl o off n cap, none => (abound n cap hi).bind fun h => (abound 0 h lo).map fun l => .osl o (if cap = l then off else off + l * sz0) (h - l) (cap - l)
  | .osl o off n cap, some m =>
    if hi.isSome = true then (abound 0 cap (some m)).bind fun m => (abound n m hi).bind fun h => (abound 0 h lo).map fun l => .osl o (if m = l then off else off + l * sz0) (h - l) (m - l) else none
  | .nils, none => (abound 0 0 hi).bind fun _ => (abound 0 0 lo).map fun _ => .nils
  | .nils, some m => if hi.isSome then (abound 0 0 (some m)).bind fun _ => (abound 0 0 hi).bind fun _ => (abound 0 0 lo).map fun _ => .nils else none
  | _, _ => none
def aslice (P : Program) (t : TypeId) (x : AV) (lo hi mx : Option AV) : Option AV :=
  match P.underlying t with
  | some .string => sliceStr x lo hi mx
  | some (.slice e) => if (P.underlying e).isSome then sliceSl (P.cellsOf e) x lo hi mx else none
  | _ => none

/-- options of values, one against the other -/
inductive ORelV (G : Gh) : Option AV → Option Value → Prop where
  | none : ORelV G none none
  | some {a : AV} {v : Value} (h : VRel G a v) : ORelV G (some a) (some v)

theorem sliceBound_run {G : Gh} {a : AV} {v : Value} {top y n d : Nat} (h : abound d top (some a) = some n) (hv : VRel G a v) (hy : top ≤ y) (code : BoundsCode) (w : World) :
    (Instr.sliceBound v y code).run P w = .ok n w ∧ n ≤ top := by
  cases a <;> simp only [abound, reduceCtorEq] at h
  rename_i k m
  split at h
  · rename_i hc
    cases h
    cases hv
    refine ⟨?_, by omega⟩
    simp only [Instr.sliceBound, asIntOf, Sem.run_bind, Sem.run_pure, Result.andThen_ok, Sem.run_ite]
    rw [if_pos (by omega)]
  · cases h

theorem abound_le {d top n : Nat} {o : Option AV} (h : abound d top o = some n) (hd : d ≤ top) : n ≤ top := by
  cases o with
  | none => simp [abound] at h; omega
  | some a =>
    cases a <;> simp only [abound, reduceCtorEq] at h
    split at h
    · cases h; omega
    · cases h

theorem aslice_str {s : List UInt8} {l h : Nat} (hl : l ≤ h) (hh : h ≤ s.length) : (⟨s.toArray⟩ : ByteArray).extract l h = ⟨((s.take h).drop l).toArray⟩ := by
  apply ByteArray.ext
  simp [ByteArray.data_extract, List.take_drop]
  congr 1
  rw [show l + (h - l) = h by omega]

theorem aslice_sound {t : TypeId} {x r : AV} {lo hi mx : Option AV} {vx : Value} {vlo vhi vmx : Option Value} (h : aslice P t x lo hi mx = some r) (hx : VRel G x vx)
    (hlo : ORelV G lo vlo) (hhi : ORelV G hi vhi) (hmx : ORelV G mx vmx) : ∃ v, (Instr.sliceAt t vx vlo vhi vmx).run P w = .ok v w ∧ VRel G r v := by
  unfold aslice at h
  split at h
  · -- a string
    rename_i ht
    unfold sliceStr at h
    split at h
    case h_2 => cases h
    rename_i s
    simp only [Option.bind_eq_some_iff, Option.map_eq_some_iff] at h
    obtain ⟨nh, h1, nl, h2, rfl⟩ := h
    cases hx; cases hmx
    have hsz : (⟨s.toArray⟩ : ByteArray).size = s.length := by simp [ByteArray.size]
    have hhle := abound_le h1 (Nat.le_refl _)
    have hlle := abound_le h2 (Nat.zero_le _)
    refine ⟨_, ?_, .str _⟩
    have hb : (Instr.sliceBounds false (⟨s.toArray⟩ : ByteArray).size (⟨s.toArray⟩ : ByteArray).size vlo vhi none).run P w = .ok (nl, nh, s.length) w := by
      rw [hsz]
      cases hhi with
      | none =>
        simp only [abound, Option.some.injEq] at h1; subst h1
        cases hlo with
        | none => simp only [abound, Option.some.injEq] at h2; subst h2; simp [Instr.sliceBounds]
        | some hl => simp [Instr.sliceBounds, (sliceBound_run (P := P) h2 hl (Nat.le_refl _) _ w).1]
      | some hh =>
        have e1 := (sliceBound_run (P := P) h1 hh (Nat.le_refl _) .sliceAlen w).1
        cases hlo with
        | none => simp only [abound, Option.some.injEq] at h2; subst h2; simp [Instr.sliceBounds, e1]
        | some hl => simp [Instr.sliceBounds, e1, (sliceBound_run (P := P) h2 hl (Nat.le_refl _) _ w).1]
    simp only [Instr.sliceAt, Sem.run_bind, run_underlying ht, Result.andThen_ok, Instr.slice]
    simp only [Option.isSome_none, Bool.false_eq_true, if_false, Sem.run_bind, hb, Result.andThen_ok, Sem.run_pure]
    rw [aslice_str hlle hhle]
  case h_3 => cases h
  rename_i e ht
  split at h
  case isFalse => cases h
  rename_i hu
  obtain ⟨u, hu⟩ := Option.isSome_iff_exists.1 hu
  unfold sliceSl at h
  split at h
  · -- a slice
    rename_i g sz es
    split at h
    case isFalse => cases h
    rename_i hs'
    simp only [Option.bind_eq_some_iff, Option.map_eq_some_iff] at h
    obtain ⟨nh, h1, nl, h2, rfl⟩ := h
    cases hmx
    cases hx with
    | sl vals hc hg hs h3 h4 =>
      rename_i b off cap
      have hhle := abound_le h1 (Nat.le_refl _)
      have hlle := abound_le h2 (Nat.zero_le _)
      have hb : (Instr.sliceBounds true es.length cap vlo vhi none).run P w = .ok (nl, nh, cap) w := by
        cases hhi with
        | none =>
          simp only [abound, Option.some.injEq] at h1; subst h1
          cases hlo with
          | none => simp only [abound, Option.some.injEq] at h2; subst h2; simp [Instr.sliceBounds]
          | some hl => simp [Instr.sliceBounds, (sliceBound_run (P := P) h2 hl (Nat.le_refl _) _ w).1]
        | some hh =>
          have e1 := (sliceBound_run (P := P) h1 hh hc .sliceAcap w).1
          cases hlo with
          | none => simp only [abound, Option.some.injEq] at h2; subst h2; simp [Instr.sliceBounds, e1]
          | some hl => simp [Instr.sliceBounds, e1, (sliceBound_run (P := P) h2 hl (Nat.le_refl _) _ w).1]
      have hlen : ((es.take nh).drop nl).length = nh - nl := by simp; omega
      have hrun : (Instr.sliceAt t (.slice (some ⟨b, off, none⟩) es.length cap) vlo vhi none).run P w =
          .ok (.slice (some (if cap = nl then ⟨b, off, none⟩ else ⟨b, off + nl * sz, none⟩)) ((es.take nh).drop nl).length (cap - nl)) w := by
        simp only [Instr.sliceAt, Sem.run_bind, run_underlying ht, Result.andThen_ok, Instr.slice, hb, run_sizeOf hu, Sem.run_pure, hlen]
        by_cases hcl : cap = nl
        · simp [hcl]
        · simp [hcl, Addr.add_lit, hs']
      refine ⟨_, hrun, ?_⟩
      by_cases hcl : cap = nl
      · rw [if_pos hcl]
        have hempty : (es.take nh).drop nl = [] := List.eq_nil_of_length_eq_zero (by omega)
        rw [hempty]
        refine .sl vals (Nat.zero_le _) ?_ (fun i e hi => by simp at hi) (fun i e j c hi => by simp at hi) (fun i e j c hi => by simp at hi)
        split
        · cases g with
          | full => simp only [GrowOk, List.length_nil]; omega
          | stuck => trivial
          | tail c => intro hlt; simp only [List.length_nil] at hlt; omega
        · trivial
      · rw [if_neg hcl]
        have hat : ∀ (i : Nat) (a : AV), ((es.take nh).drop nl)[i]? = some a → es[nl + i]? = some a := by
          intro i a ha
          rw [List.getElem?_drop] at ha
          have hlt := (List.getElem?_eq_some_iff.1 ha).1
          simp at hlt
          rwa [List.getElem?_take_of_lt (by omega)] at ha
        refine .sl (fun i j => vals (nl + i) j) (by omega) ?_ (fun i a ha => hs _ a (hat i a ha)) ?_ (fun i a j c ha hj => h4 _ a j c (hat i a ha) hj)
        · split
          · rename_i he
            subst he
            cases g with
            | full => simp only [GrowOk] at hg ⊢; omega
            | stuck => trivial
            | tail c =>
              intro hlt
              have := hg (by omega)
              rw [this]
              have e1 : off + nl * sz + (List.drop nl (List.take es.length es)).length * sz = off + es.length * sz := by
                rw [hlen, Nat.add_assoc, ← Nat.add_mul]; congr 2; omega
              have e2 : off + nl * sz + (cap - nl) * sz = off + cap * sz := by
                rw [Nat.add_assoc, ← Nat.add_mul]; congr 2; omega
              rw [e1, e2]
          · trivial
        · intro i a j c ha hj
          have := h3 _ a j c (hat i a ha) hj
          rw [← this]; congr 1; rw [Nat.add_mul]; omega
  · -- a slice, with three bounds
    rename_i g sz es m
    split at h
    case isFalse => cases h
    rename_i hcond
    obtain ⟨hs', hhi1⟩ := hcond
    simp only [Option.bind_eq_some_iff] at h
    obtain ⟨nm, h0, nh, h1, nl, h2, h⟩ := h
    split at h
    · rename_i he
      subst he
      cases h
      cases hmx with
      | some hm =>
        rename_i vm
        cases hx with
        | sl vals hc hg hs h3 h4 =>
          rename_i b off cap
          have hmle := abound_le h0 (Nat.zero_le _)
          have hlle := abound_le h2 (Nat.zero_le _)
          have e0 := (sliceBound_run (P := P) h0 hm hc .slice3Acap w).1
          have hb : (Instr.sliceBounds true es.length cap vlo vhi (some vm)).run P w = .ok (nl, nh, nh) w := by
            cases hhi with
            | none => simp at hhi1
            | some hh =>
              have e1 := (sliceBound_run (P := P) h1 hh (Nat.le_refl _) .slice3B w).1
              cases hlo with
              | none => simp only [abound, Option.some.injEq] at h2; subst h2; simp [Instr.sliceBounds, e0, e1]
              | some hl => simp [Instr.sliceBounds, e0, e1, (sliceBound_run (P := P) h2 hl (Nat.le_refl _) _ w).1]
          have hlen : ((es.take nh).drop nl).length = nh - nl := by simp; omega
          have hrun : (Instr.sliceAt t (.slice (some ⟨b, off, none⟩) es.length cap) vlo vhi (some vm)).run P w =
              .ok (.slice (some (if nh = nl then ⟨b, off, none⟩ else ⟨b, off + nl * sz, none⟩)) ((es.take nh).drop nl).length (nh - nl)) w := by
            simp only [Instr.sliceAt, Sem.run_bind, run_underlying ht, Result.andThen_ok, Instr.slice, hb, run_sizeOf hu, Sem.run_pure, hlen]
            by_cases hcl : nh = nl
            · simp [hcl]
            · simp [hcl, Addr.add_lit, hs']
          refine ⟨_, hrun, ?_⟩
          by_cases hcl : nh = nl
          · rw [if_pos hcl]
            have hempty : (es.take nh).drop nl = [] := List.eq_nil_of_length_eq_zero (by omega)
            rw [hempty]
            exact .sl vals (Nat.zero_le _) (by simp only [GrowOk, List.length_nil]; omega) (fun i e hi => by simp at hi) (fun i e j c hi => by simp at hi) (fun i e j c hi => by simp at hi)
          · rw [if_neg hcl]
            have hat : ∀ (i : Nat) (a : AV), ((es.take nh).drop nl)[i]? = some a → es[nl + i]? = some a := by
              intro i a ha
              rw [List.getElem?_drop] at ha
              have hlt := (List.getElem?_eq_some_iff.1 ha).1
              simp at hlt
              rwa [List.getElem?_take_of_lt (by omega)] at ha
            refine .sl (fun i j => vals (nl + i) j) (by omega) (by simp only [GrowOk]; omega) (fun i a ha => hs _ a (hat i a ha)) ?_ (fun i a j c ha hj => h4 _ a j c (hat i a ha) hj)
            intro i a j c ha hj
            have := h3 _ a j c (hat i a ha) hj
            rw [← this]; congr 1; rw [Nat.add_mul]; omega
    · cases h
  · -- an owned slice
    rename_i o off n cap
    simp only [Option.bind_eq_some_iff, Option.map_eq_some_iff] at h
    obtain ⟨nh, h1, nl, h2, rfl⟩ := h
    cases hmx
    cases hx with
    | osl off n cap hm hc =>
      rename_i b
      have hhle := abound_le h1 hc
      have hlle := abound_le h2 (Nat.zero_le _)
      have hb : (Instr.sliceBounds true n cap vlo vhi none).run P w = .ok (nl, nh, cap) w := by
        cases hhi with
        | none =>
          simp only [abound, Option.some.injEq] at h1; subst h1
          cases hlo with
          | none => simp only [abound, Option.some.injEq] at h2; subst h2; simp [Instr.sliceBounds]
          | some hl => simp [Instr.sliceBounds, (sliceBound_run (P := P) h2 hl (Nat.le_refl _) _ w).1]
        | some hh =>
          have e1 := (sliceBound_run (P := P) h1 hh (Nat.le_refl _) .sliceAcap w).1
          cases hlo with
          | none => simp only [abound, Option.some.injEq] at h2; subst h2; simp [Instr.sliceBounds, e1]
          | some hl => simp [Instr.sliceBounds, e1, (sliceBound_run (P := P) h2 hl (Nat.le_refl _) _ w).1]
      refine ⟨.slice (some ⟨b, if cap = nl then off else off + nl * P.cellsOf e, none⟩) (nh - nl) (cap - nl), ?_, .osl _ _ _ hm (by omega)⟩
      simp only [Instr.sliceAt, Sem.run_bind, run_underlying ht, Result.andThen_ok, Instr.slice, hb, run_sizeOf hu, Sem.run_pure]
      by_cases hcl : cap = nl
      · simp [hcl]
      · simp [hcl, Addr.add_lit]
  · -- an owned slice, with three bounds
    rename_i o off n cap m
    split at h
    case isFalse => cases h
    rename_i hhi1
    simp only [Option.bind_eq_some_iff, Option.map_eq_some_iff] at h
    obtain ⟨nm, h0, nh, h1, nl, h2, rfl⟩ := h
    cases hmx with
    | some hmv =>
      rename_i vm
      cases hx with
      | osl off n cap hm hc =>
        rename_i b
        have hmle := abound_le h0 (Nat.zero_le _)
        have hlle := abound_le h2 (Nat.zero_le _)
        have e0 := (sliceBound_run (P := P) h0 hmv (Nat.le_refl _) .slice3Acap w).1
        cases hhi with
        | none => simp at hhi1
        | some hh =>
          rename_i vh
          have e1 := (sliceBound_run (P := P) h1 hh (Nat.le_refl _) .slice3B w).1
          have hhle : nh ≤ nm := (sliceBound_run (P := P) h1 hh (Nat.le_refl _) .slice3B w).2
          have hb : (Instr.sliceBounds true n cap vlo (some vh) (some vm)).run P w = .ok (nl, nh, nm) w := by
            cases hlo with
            | none => simp only [abound, Option.some.injEq] at h2; subst h2; simp [Instr.sliceBounds, e0, e1]
            | some hl => simp [Instr.sliceBounds, e0, e1, (sliceBound_run (P := P) h2 hl (Nat.le_refl _) _ w).1]
          refine ⟨.slice (some ⟨b, if nm = nl then off else off + nl * P.cellsOf e, none⟩) (nh - nl) (nm - nl), ?_, .osl _ _ _ hm (by omega)⟩
          simp only [Instr.sliceAt, Sem.run_bind, run_underlying ht, Result.andThen_ok, Instr.slice, hb, run_sizeOf hu, Sem.run_pure]
          by_cases hcl : nm = nl
          · simp [hcl]
          · simp [hcl, Addr.add_lit]
  · -- nil
    simp only [Option.bind_eq_some_iff, Option.map_eq_some_iff] at h
    obtain ⟨nh, h1, nl, h2, rfl⟩ := h
    cases hmx; cases hx
    have hhle := abound_le h1 (Nat.le_refl _)
    have hlle := abound_le h2 (Nat.zero_le _)
    obtain rfl : nh = 0 := by omega
    obtain rfl : nl = 0 := by omega
    have hb : (Instr.sliceBounds true 0 0 vlo vhi none).run P w = .ok (0, 0, 0) w := by
      cases hhi with
      | none =>
        cases hlo with
        | none => simp [Instr.sliceBounds]
        | some hl => simp [Instr.sliceBounds, (sliceBound_run (P := P) h2 hl (Nat.le_refl _) _ w).1]
      | some hh =>
        have e1 := (sliceBound_run (P := P) h1 hh (Nat.le_refl _) .sliceAcap w).1
        cases hlo with
        | none => simp [Instr.sliceBounds, e1]
        | some hl => simp [Instr.sliceBounds, e1, (sliceBound_run (P := P) h2 hl (Nat.le_refl _) _ w).1]
    refine ⟨_, ?_, .nils⟩
    simp [Instr.sliceAt, run_underlying ht, Instr.slice, hb, run_sizeOf hu]
  · rename_i m
    split at h
    case isFalse => cases h
    rename_i hhi1
    simp only [Option.bind_eq_some_iff, Option.map_eq_some_iff] at h
    obtain ⟨nm, h0, nh, h1, nl, h2, rfl⟩ := h
    cases hmx with
    | some hm =>
      rename_i vm
      cases hx
      have hmle := abound_le h0 (Nat.le_refl _)
      have hhle := abound_le h1 (Nat.le_refl _)
      have hlle := abound_le h2 (Nat.zero_le _)
      obtain rfl : nm = 0 := by omega
      obtain rfl : nh = 0 := by omega
      obtain rfl : nl = 0 := by omega
      have e0 := (sliceBound_run (P := P) h0 hm (Nat.le_refl _) .slice3Acap w).1
      cases hhi with
      | none => simp at hhi1
      | some hh =>
        rename_i vh
        have e1 := (sliceBound_run (P := P) h1 hh (Nat.le_refl _) .slice3B w).1
        have hb : (Instr.sliceBounds true 0 0 vlo (some vh) (some vm)).run P w = .ok (0, 0, 0) w := by
          cases hlo with
          | none => simp [Instr.sliceBounds, e0, e1]
          | some hl => simp [Instr.sliceBounds, e0, e1, (sliceBound_run (P := P) h2 hl (Nat.le_refl _) _ w).1]
        refine ⟨_, ?_, .nils⟩
        simp [Instr.sliceAt, run_underlying ht, Instr.slice, hb, run_sizeOf hu]
  · cases h
end
end Go.Va
