/-
  Operations that look at memory or make it, over the plain view, held against the machine's: objects, loads, stores, rows, slices.
-/
import Derived.Test.YtfldcobcnlgapaaGreatDoorVaPure2
set_option linter.unusedVariables false
set_option linter.unusedSimpArgs false
set_option linter.unnecessarySimpa false
namespace Go.Va
open Go.RowKit (Below)

theorem info_of_underlying {P : Program} {t : TypeId} {u : TypeDesc} (hu : P.underlying t = some u) : ∃ i, P.info? t = some i ∧ P.cellsOf t = i.size := by
  unfold Program.underlying at hu
  unfold Program.cellsOf
  cases h : P.info? t with
  | none => rw [h] at hu; cases hu
  | some i => exact ⟨i, rfl, by simp⟩
theorem run_sizeOf {P : Program} {t : TypeId} {u : TypeDesc} (hu : P.underlying t = some u) (w : World) : (sizeOf t).run P w = .ok (P.cellsOf t) w := by
  obtain ⟨i, hi, hs⟩ := info_of_underlying hu
  simp [sizeOf, typeInfo, hi, hs]
theorem run_isAgg {P : Program} {t : TypeId} {u : TypeDesc} (hu : P.underlying t = some u) (w : World) : (isAgg t).run P w = .ok (Desc.isAgg u) w := by
  simp only [isAgg, Sem.run_bind, run_underlying hu, Result.andThen_ok]
  cases u <;> rfl

/-- the value that a variable of type t begins with -/
def azero (P : Program) (t : TypeId) : Option AV := ((P.info? t).bind (·.zero)).map aconst
theorem azero_run {P : Program} {t : TypeId} {z : AV} (h : azero P t = some z) : ∃ v, z = aconst v ∧ ∀ w, (zeroValue t).run P w = .ok v w := by
  simp only [azero, Option.map_eq_some_iff, Option.bind_eq_some_iff] at h
  obtain ⟨v, ⟨i, hi, hz⟩, rfl⟩ := h
  exact ⟨v, rfl, fun w => by simp [zeroValue, typeInfo, hi, hz]⟩

/-- What a step leaves: a view further on that fits the new world, and in it what is asked. -/
def Post (w0 : World) (G : Gh) (H : AH) (K : AV → AH → Prop) (v : Value) (w' : World) : Prop :=
  ∃ G' H' av, Gh.Le H.next G G' ∧ H.next ≤ H'.next ∧ HRel w0 G' H' w' ∧ VRel G' av v ∧ K av H'

theorem Post.mono {w0 : World} {G : Gh} {H : AH} {K K' : AV → AH → Prop} {v : Value} {w' : World} (h : Post w0 G H K v w') (hk : ∀ v H', K v H' → K' v H') : Post w0 G H K' v w' :=
  let ⟨G', H', av, a, b, c, d, e⟩ := h; ⟨G', H', av, a, b, c, d, hk _ _ e⟩

/-- an operation's run, as a call or a value -/
def OpOk (P : Program) (r : Result Next) (Φ : Value → World → Prop) : Prop :=
  match r with
  | .ok (.value v) w' => Φ v w'
  | .ok .skip w' => Φ undef w'
  | .ok (.enter f args) w' => Calls P f args w' fun e w'' => ∃ v, e = .returned v ∧ Φ v w''
  | _ => False

section
variable {P : Program} {w0 w : World} {G : Gh} {H : AH}

/-- the world as it was, one value -/
theorem Post.same (hr : HRel w0 G H w) {av : AV} {v : Value} (hv : VRel G av v) {K : AV → AH → Prop} (hk : K av H) : Post w0 G H K v w :=
  ⟨G, H, av, .refl _ _, Nat.le_refl _, hr, hv, hk⟩

-- ---------------------------------------------------------------- loads
def ld1 (p : AV) (H : AH) : Option AV :=
  match p with
  | .ptr o off => match H.get o with
    | some (.cells cs) => cs[off]?
    | _ => none
  | .elem cs off => cs[off]?
  | _ => none
def ldN (n : Nat) (p : AV) (H : AH) : Option AV :=
  match p with
  | .ptr o off => match H.get o with
    | some (.cells cs) => if off + n ≤ cs.length then some (.agg ((cs.drop off).take n)) else none
    | _ => none
  | .elem cs off => if off + n ≤ cs.length then some (.agg ((cs.drop off).take n)) else none
  | _ => none

/-- A readable run of cells. -/
theorem cells_ptr (hr : HRel w0 G H w) {o off b : Nat} {cs : List AV} (ho : H.get o = some (.cells cs)) (hb : G.om o = some b) :
    ∀ (i : Nat) (x : AV), cs[i]? = some x → ∃ v, w.cell? ⟨b, i, none⟩ = some v ∧ VRel G x v := fun i x hi =>
  let ⟨v, h1, _, h3⟩ := hr.getElem_cells ho hb hi; ⟨v, h1, h3⟩

theorem ld1usound (hr : HRel w0 G H w) {p x : AV} {vp : Value} (h : ld1 p H = some x) (hp : VRel G p vp) : ∃ a v, vp = .pointer (some a) ∧ (load a).run P w = .ok v w ∧ VRel G x v := by
  unfold ld1 at h
  split at h
  · rename_i o off
    split at h
    · rename_i cs ho
      cases hp with
      | ptr off hm =>
        obtain ⟨v, h1, _, h3⟩ := hr.getElem_cells ho hm h
        exact ⟨_, v, rfl, by simp [h1], h3⟩
    · cases h
  · cases hp with
    | elem off' vals h1 h2 => exact ⟨_, _, rfl, by rw [run_load, hr.im _ _ _ (h1 _ x h)], h2 _ x h⟩
  · cases h

theorem ldN_sound (hr : HRel w0 G H w) {n : Nat} {p x : AV} {vp : Value} (h : ldN n p H = some x) (hp : VRel G p vp) : ∃ a v, vp = .pointer (some a) ∧ (loadCells a n).run P w = .ok v w ∧ VRel G x (.agg v) := by
  have key : ∀ (b base off : Nat) (cs : List AV), (∀ (i : Nat) (c : AV), cs[i]? = some c → ∃ v, w.cell? ⟨b, base + i, none⟩ = some v ∧ VRel G c v) → off + n ≤ cs.length →
      ∃ v, (loadCells ⟨b, base + off, none⟩ n).run P w = .ok v w ∧ VRel G (.agg ((cs.drop off).take n)) (.agg v) := by
    intro b base off cs hc hle
    have hcell : ∀ j, j < n → ∃ v, w.cell? ⟨b, base + (off + j), none⟩ = some v := fun j hj =>
      let ⟨v, h1, _⟩ := hc (off + j) cs[off + j] (List.getElem?_eq_getElem (by omega)); ⟨v, h1⟩
    let f : Nat → Value := fun j => (w.cell? ⟨b, base + (off + j), none⟩).getD undef
    have hrun := run_loadCells (P := P) w ⟨b, base + off, none⟩ n f (fun j hj => by
      obtain ⟨v, hv⟩ := hcell j hj
      rw [Addr.add_lit, Nat.add_assoc]
      simp [f, hv])
    refine ⟨_, hrun, .agg ?_ ?_⟩
    · simp; omega
    · intro i a v ha hv
      have hi : i < n := by have := (List.getElem?_eq_some_iff.1 ha).1; simp at this; omega
      rw [List.getElem?_take_of_lt hi, List.getElem?_drop] at ha
      obtain ⟨u, hu, hru⟩ := hc _ _ ha
      simp [hi, f, hu] at hv
      subst hv
      exact hru
  unfold ldN at h
  split at h
  · rename_i o off
    split at h
    · rename_i cs ho
      split at h
      · rename_i hle
        cases h
        cases hp with
        | ptr off hm =>
          rename_i b
          obtain ⟨v, h1, h2⟩ := key b 0 off cs (fun i c hi => by
            obtain ⟨v, h1, _, h3⟩ := hr.getElem_cells ho hm hi
            exact ⟨v, by simpa using h1, h3⟩) hle
          exact ⟨_, v, rfl, by simpa using h1, h2⟩
      · cases h
    · cases h
  · rename_i cs off
    split at h
    · rename_i hle
      cases h
      cases hp with
      | elem off vals h1 h2 =>
        rename_i b base
        obtain ⟨v, e1, e2⟩ := key b base off cs (fun i c hi => ⟨vals i, hr.im _ _ _ (h1 i c hi), h2 i c hi⟩) hle
        exact ⟨_, v, rfl, e1, e2⟩
    · cases h
  · cases h

/-- load, by the type -/
def aload (P : Program) (t : TypeId) (p : AV) (H : AH) : Option AV :=
  (P.underlying t).bind fun u => if Desc.isAgg u then ldN (P.cellsOf t) p H else ld1 p H
theorem aload_sound (hr : HRel w0 G H w) {t : TypeId} {p x : AV} {vp : Value} (h : aload P t p H = some x) (hp : VRel G p vp) :
    ∃ v, (Instr.loadAt t vp).run P w = .ok v w ∧ VRel G x v := by
  simp only [aload, Option.bind_eq_some_iff] at h
  obtain ⟨u, hu, h⟩ := h
  split at h
  · rename_i ha
    obtain ⟨a, v, rfl, h1, h2⟩ := ldN_sound (P := P) hr h hp
    exact ⟨.agg v, by simp [Instr.loadAt, Instr.sureAddr, loadVar, run_isAgg hu, ha, run_sizeOf hu, h1], h2⟩
  · rename_i ha
    obtain ⟨a, v, rfl, h1, h2⟩ := ld1usound (P := P) hr h hp
    refine ⟨v, ?_, h2⟩
    simp only [Instr.loadAt, Instr.sureAddr, loadVar, Sem.run_bind, Sem.run_pure, Result.andThen_ok, run_isAgg hu, Sem.run_ite]
    rw [if_neg ha]
    exact h1

-- ---------------------------------------------------------------- stores
def sets : List AV → Nat → List AV → List AV
  | cs, _, [] => cs
  | cs, off, v :: vs => sets (cs.set off v) (off + 1) vs
theorem length_sets : ∀ (vs cs : List AV) (off : Nat), (sets cs off vs).length = cs.length
  | [], _, _ => rfl
  | v :: vs, cs, off => by simp [sets, length_sets vs]

theorem AH.put_put (H : AH) (o : Nat) (x y : AObj) : (H.put o x).put o y = H.put o y := by
  simp only [AH.put, AH.mk.injEq, and_true]
  funext o'
  split <;> rfl
theorem AH.put_self (H : AH) (o : Nat) (x : AObj) (h : H.get o = some x) : H.put o x = H := by
  cases H with
  | mk g t n =>
    simp only [AH.put, AH.mk.injEq, and_true]
    funext o'
    split
    · rename_i e; subst e; exact h.symm
    · rfl
theorem AH.get_put (H : AH) (o : Nat) (x : AObj) : (H.put o x).get o = some x := by simp [AH.put]

theorem stores_sound : ∀ (xs : List AV) (vs : List Value) (cs : List AV) (H : AH) (w : World) (off i : Nat) {o b : Nat}, HRel w0 G H w → H.get o = some (.cells cs) → G.om o = some b →
    CRel G xs vs → xs.all AV.one = true → off + i + xs.length ≤ cs.length →
    ∃ w', (storeCells ⟨b, off, none⟩ vs i).run P w = .ok () w' ∧ HRel w0 G (H.put o (.cells (sets cs (off + i) xs))) w'
  | [], vs, cs, H, w, off, i, o, b, hr, ho, hb, hc, _, _ => by
    have : vs = [] := List.eq_nil_of_length_eq_zero (by have := hc.len; simpa using this.symm)
    subst this
    refine ⟨w, rfl, ?_⟩
    simp only [sets]
    rw [AH.put_self H o _ ho]
    exact hr
  | x :: xs, vs, cs, H, w, off, i, o, b, hr, ho, hb, hc, h1, hle => by
    match vs, hc.len with
    | v :: vs, _ =>
      simp only [List.all_cons, Bool.and_eq_true] at h1
      simp only [List.length_cons] at hle
      have hv : VRel G x v := hc.at_ 0 x v rfl rfl
      obtain ⟨u, hu, hf, _⟩ := hr.getElem_cells ho hb (i := off + i) (List.getElem?_eq_getElem (by omega))
      have hst : (store ((⟨b, off, none⟩ : Addr).add i) v).run P w = .ok () (w.setCell ⟨b, off + i, none⟩ v) := by
        rw [Addr.add_lit, run_store P w _ v _ (hv.oneCell h1.1)]
        simp [hu, hf]
      have hr' := hr.store ho hb (i := off + i) (x := x) (v := v) (by omega) hv
      obtain ⟨w', h3, h4⟩ := stores_sound xs vs (cs.set (off + i) x) (H.put o (.cells (cs.set (off + i) x))) _ off (i + 1) hr' (AH.get_put _ _ _) hb
        ⟨by have := hc.len; simpa using this, fun j a u ha hu => hc.at_ (j + 1) a u (by simpa using ha) (by simpa using hu)⟩ h1.2 (by simp; omega)
      refine ⟨w', ?_, ?_⟩
      · simp only [storeCells, Sem.run_bind, hst, Result.andThen_ok]
        exact h3
      · rw [AH.put_put] at h4
        exact h4

def ast (n : Nat) (p v : AV) (H : AH) : Option AH :=
  match p with
  | .ptr o off => match H.get o with
    | some (.cells cs) => if v.known = true ∧ v.cells.length = n ∧ v.cells.all AV.one = true ∧ off + n ≤ cs.length then some (H.put o (.cells (sets cs off v.cells))) else none
    | _ => none
  | _ => none
def astore (P : Program) (t : TypeId) (p v : AV) (H : AH) : Option AH := (P.underlying t).bind fun _ => ast (P.cellsOf t) p v H
theorem astore_sound (hr : HRel w0 G H w) {t : TypeId} {p x : AV} {vp v : Value} {H' : AH} (h : astore P t p x H = some H') (hp : VRel G p vp) (hx : VRel G x v) :
    ∃ w', (Instr.storeAt t vp v).run P w = .ok () w' ∧ HRel w0 G H' w' ∧ H'.next = H.next := by
  simp only [astore, Option.bind_eq_some_iff] at h
  obtain ⟨u, hu, h⟩ := h
  unfold ast at h
  split at h
  · rename_i o off
    split at h
    · rename_i cs ho
      split at h
      · rename_i hc
        obtain ⟨hk, hl, h1, hle⟩ := hc
        cases h
        cases hp with
        | ptr off hm =>
          have hcr := hx.cellsRel hk
          obtain ⟨w', h3, h4⟩ := stores_sound (P := P) x.cells v.cells.toList cs H w off 0 hr ho hm hcr h1 (by omega)
          refine ⟨w', ?_, by simpa using h4, rfl⟩
          have hsz : v.cells.size = P.cellsOf t := by have := hcr.len; simp at this; omega
          simp only [Instr.storeAt, Instr.sureAddr, storeVar, Sem.run_bind, Sem.run_pure, Result.andThen_ok, run_sizeOf hu, Sem.run_ite]
          rw [if_neg (by simpa using hsz)]
          exact h3
      · cases h
    · cases h
  · cases h

-- ---------------------------------------------------------------- new objects
/-- A new object, whose cells are a value's. -/
theorem newObj_sound (hr : HRel w0 G H w) {x : AV} {v : Value} (hk : x.known = true) (hx : VRel G x v) (t : TypeId) {K : AV → AH → Prop} (k : K (.ptr H.next 0) (H.add (.cells x.cells))) :
    Post w0 G H K (.pointer (some ⟨w.heap.size, 0, none⟩)) (w.alloc (.cells v.cells t)) := by
  have hn : G.om H.next = none := hr.om_lt (Nat.le_refl _)
  have hle : Gh.Le H.next G (G.setOm H.next w.heap.size) := Gh.le_setOm (Nat.le_refl _) hn
  have hc := hx.cellsRel hk
  have hget : (H.add (.cells x.cells)).get H.next = some (.cells x.cells) := by simp [AH.add]
  refine ⟨_, _, _, hle, by simp [AH.add], (hr.add (.cells x.cells)).place hget hn (.cells v.cells t) ?_, .ptr 0 (by simp [Gh.setOm]), k⟩
  intro i a ha
  have hi : i < v.cells.size := by have := hc.len; have h2 := (List.getElem?_eq_some_iff.1 ha).1; simp at this; omega
  have hv : v.cells[i]? = some v.cells[i] := Array.getElem?_eq_getElem hi
  refine ⟨v.cells[i], by simp [hv], by simp, (hc.at_ i a _ ha (by simpa using hv)).mono hle⟩

theorem alloc_sound (hr : HRel w0 G H w) {t : TypeId} {z : AV} (hz : azero P t = some z) (hk : z.known = true) {K : AV → AH → Prop} (k : K (.ptr H.next 0) (H.add (.cells z.cells))) :
    ∃ v w', (Instr.alloc t true (.tuple #[])).run P w = .ok v w' ∧ Post w0 G H K v w' := by
  obtain ⟨v, rfl, hzr⟩ := azero_run hz
  refine ⟨_, _, ?_, newObj_sound hr hk (VRel.aconst G v) t k⟩
  simp [Instr.alloc, hzr, newVar, newRow]

theorem box_sound (hr : HRel w0 G H w) {t : TypeId} {x : AV} {v : Value} (hk : x.known = true) (hx : VRel G x v) {K : AV → AH → Prop} (k : K (.ptr H.next 0) (H.add (.cells x.cells))) :
    ∃ u w', (Instr.box t v).run P w = .ok u w' ∧ Post w0 G H K u w' := by
  refine ⟨_, _, ?_, newObj_sound hr hk hx t k⟩
  simp [Instr.box, newVar, newRow]

-- ---------------------------------------------------------------- places in structs and slices
def aoff (n : Nat) (p : AV) : Option AV :=
  match p with
  | .ptr o off => some (.ptr o (off + n))
  | .elem cs off => some (.elem cs (off + n))
  | _ => none
def afield (P : Program) (s : TypeId) (f : Nat) (p : AV) : Option AV :=
  match P.underlying s with
  | some (.struct fs) => match fs[f]? with
    | some x => if P.cellsOf x.type = 0 then none else if (P.underlying x.type).isSome then aoff x.offset p else none
    | none => none
  | _ => none
theorem afield_sound {s : TypeId} {f : Nat} {p x : AV} {vp : Value} (h : afield P s f p = some x) (hp : VRel G p vp) : ∃ v, (Instr.fieldAt s vp f).run P w = .ok v w ∧ VRel G x v := by
  unfold afield at h
  split at h
  · rename_i fs hs
    split at h
    · rename_i fd hf
      split at h
      · cases h
      · rename_i hn
        split at h
        · rename_i hu
          obtain ⟨u, hu⟩ := Option.isSome_iff_exists.1 hu
          unfold aoff at h
          split at h
          · cases h
            cases hp with
            | ptr off hm =>
              refine ⟨_, ?_, .ptr _ hm⟩
              simp [Instr.fieldAt, run_underlying hs, hf, Instr.sureAddr, fieldPlace, run_sizeOf hu, hn, Addr.add_lit]
          · cases h
            cases hp with
            | elem off vals h1 h2 =>
              refine ⟨_, ?_, .elem _ vals h1 h2⟩
              simp [Instr.fieldAt, run_underlying hs, hf, Instr.sureAddr, fieldPlace, run_sizeOf hu, hn, Addr.add_lit, Nat.add_assoc]
          · cases h
        · cases h
    · cases h
  · cases h

def fld (agg : Bool) (n off : Nat) (x : AV) : Option AV :=
  match x with
  | .agg cs => apart agg n cs off
  | _ => none
def afld (P : Program) (t : TypeId) (f : Nat) (x : AV) : Option AV :=
  match P.underlying t with
  | some (.struct fs) => match fs[f]? with
    | some fd => (P.underlying fd.type).bind fun u => fld (Desc.isAgg u) (P.cellsOf fd.type) fd.offset x
    | none => none
  | _ => none
theorem afld_sound {t : TypeId} {f : Nat} {x r : AV} {v : Value} (h : afld P t f x = some r) (hx : VRel G x v) : ∃ u, (Instr.field t v f).run P w = .ok u w ∧ VRel G r u := by
  unfold afld at h
  split at h
  · rename_i fs hs
    split at h
    · rename_i fd hf
      simp only [Option.bind_eq_some_iff] at h
      obtain ⟨u, hu, h⟩ := h
      unfold fld at h
      split at h
      · cases hx with
        | agg h1 h2 =>
          obtain ⟨v, h3, h4⟩ := VRel.apart (P := P) (w := w) h1 h2 hu h
          exact ⟨v, by simp [Instr.field, run_underlying hs, hf, asAgg, h3], h4⟩
      · cases h
    · cases h
  · cases h

/-- The element that an index names: its own cells. -/
def idxA (sz0 : Nat) (x i : AV) : Option AV :=
  match x, i with
  | .sl _ sz es, .int _ n => if 0 ≤ n ∧ sz = sz0 then es[n.toNat]?.bind fun x => if x.known then some (.elem x.cells 0) else none else none
  | .osl o off n _, .int _ k => if 0 ≤ k ∧ k < (n : Int) then some (.ptr o (off + k.toNat * sz0)) else none
  | _, _ => none
/-- a place in an array, at its address -/
def idxP (n sz : Nat) (x i : AV) : Option AV :=
  match x, i with
  | .ptr o off, .int _ k => if 0 ≤ k ∧ k < n then some (.ptr o (off + k.toNat * sz)) else none
  | _, _ => none
def aidxA (P : Program) (t : TypeId) (x i : AV) : Option AV :=
  match P.underlying t with
  | some (.slice e) => if (P.underlying e).isSome then idxA (P.cellsOf e) x i else none
  | some (.array n e) => if (P.underlying e).isSome then idxP n (P.cellsOf e) x i else none
  | _ => none
theorem aidxA_sound {t : TypeId} {x i r : AV} {vx vi : Value} (h : aidxA P t x i = some r) (hx : VRel G x vx) (hi : VRel G i vi) : ∃ v, (Instr.indexAt t vx vi).run P w = .ok v w ∧ VRel G r v := by
  unfold aidxA at h
  split at h
  · rename_i e ht
    split at h
    · rename_i hu
      obtain ⟨u, hu⟩ := Option.isSome_iff_exists.1 hu
      unfold idxA at h
      split at h
      · rename_i g sz es k n
        split at h
        · rename_i hc
          obtain ⟨hn, hsz⟩ := hc
          simp only [Option.bind_eq_some_iff] at h
          obtain ⟨y, hy, h⟩ := h
          split at h
          · cases h
            cases hi
            cases hx with
            | sl vals hc' hg hs h1 h2 =>
              have hlt : n.toNat < es.length := (List.getElem?_eq_some_iff.1 hy).1
              refine ⟨_, ?_, .elem 0 (vals n.toNat) (base := _) (fun j c hj => h1 _ y j c hy hj) (fun j c hj => h2 _ y j c hy hj)⟩
              simp [Instr.indexAt, asIntOf, run_underlying ht, hn, run_sizeOf hu, Addr.add_lit, hsz]
              omega
          · cases h
        · cases h
      · rename_i o off n cap kk k
        split at h
        · rename_i hc
          cases h
          cases hi
          cases hx with
          | osl off n cap hm hle =>
            refine ⟨_, ?_, .ptr _ hm⟩
            simp [Instr.indexAt, asIntOf, run_underlying ht, hc.1, hc.2, run_sizeOf hu, Addr.add_lit]
        · cases h
      · cases h
    · cases h
  · rename_i n e ht
    split at h
    · rename_i hu
      obtain ⟨u, hu⟩ := Option.isSome_iff_exists.1 hu
      unfold idxP at h
      split at h
      · rename_i o off kk k
        split at h
        · rename_i hc
          cases h
          cases hi
          cases hx with
          | ptr off hm =>
            refine ⟨_, ?_, .ptr _ hm⟩
            simp only [Instr.indexAt, asIntOf, run_underlying ht, Sem.run_bind, Sem.run_pure, Result.andThen_ok, Instr.sureAddr, hc.1, hc.2, and_self, if_true, run_sizeOf hu, Addr.add_lit]
        · cases h
      · cases h
    · cases h
  · cases h

/-- A byte of a string. -/
def idxStr (x i : AV) : Option AV :=
  match x, i with
  | .str s, .int _ n => if 0 ≤ n then (s[n.toNat]?).map fun b => .int .u8 b.toNat else none
  | _, _ => none
def aidx (P : Program) (t : TypeId) (x i : AV) : Option AV :=
  match P.underlying t with
  | some .string => idxStr x i
  | _ => none
theorem aidx_sound {t : TypeId} {x i r : AV} {vx vi : Value} (h : aidx P t x i = some r) (hx : VRel G x vx) (hi : VRel G i vi) : ∃ v, (Instr.index t vx vi).run P w = .ok v w ∧ VRel G r v := by
  unfold aidx at h
  split at h
  · rename_i ht
    unfold idxStr at h
    split at h
    · rename_i s k n
      split at h
      · rename_i hn
        simp only [Option.map_eq_some_iff] at h
        obtain ⟨b, hb, rfl⟩ := h
        cases hi; cases hx
        refine ⟨_, ?_, .int _ _⟩
        have : (⟨s.toArray⟩ : ByteArray)[n.toNat]? = some b := by
          have hlt := (List.getElem?_eq_some_iff.1 hb).1
          have h2 := (List.getElem?_eq_some_iff.1 hb).2
          simp only [getElem?_def, ByteArray.size, List.size_toArray, hlt, ↓reduceDIte, Option.some.injEq]
          exact h2
        simp [Instr.index, asIntOf, run_underlying ht, hn, this]
      · cases h
    · cases h
  · cases h
end
end Go.Va
