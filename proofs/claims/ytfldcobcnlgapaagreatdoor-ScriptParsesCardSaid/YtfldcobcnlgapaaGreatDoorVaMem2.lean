/-
  Rows that are never written again: literals, parts of slices, appends; strings and bytes.
-/
import Derived.Test.YtfldcobcnlgapaaGreatDoorVaMem
set_option linter.unusedVariables false
set_option linter.unusedSimpArgs false
set_option linter.unnecessarySimpa false
namespace Go.Va
open Go.RowKit (Below)
section
variable {P : Program} {w0 w : World} {G : Gh} {H : AH}

-- ---------------------------------------------------------------- filling cells
theorem foldl_sets (off : Nat) : ∀ (us : List Value) (k : Nat) (c : Array Value) (p : Nat),
    ((us.zipIdx k).foldl (fun (cs : Array Value) (x : Value × Nat) => cs.setIfInBounds (off + x.2) x.1) c)[p]? =
      if off + k ≤ p ∧ p < off + k + us.length ∧ p < c.size then us[p - off - k]? else c[p]?
  | [], k, c, p => by simp; intro h1 h2; omega
  | u :: us, k, c, p => by
    simp only [List.zipIdx_cons, List.foldl_cons]
    rw [foldl_sets off us (k + 1)]
    simp only [Array.size_setIfInBounds, List.length_cons]
    by_cases hp : p = off + k
    · subst hp
      rw [if_neg (by omega), Array.getElem?_setIfInBounds_self]
      by_cases hc : off + k < c.size
      · simp [hc]
      · simp [hc]
    · rw [Array.getElem?_setIfInBounds_ne (by omega)]
      by_cases h1 : off + (k + 1) ≤ p ∧ p < off + (k + 1) + us.length ∧ p < c.size
      · rw [if_pos h1, if_pos (by omega)]
        have : p - off - k = (p - off - (k + 1)) + 1 := by omega
        rw [this]; simp
      · rw [if_neg h1, if_neg (by omega)]
theorem size_foldl_sets (off : Nat) : ∀ (us : List (Value × Nat)) (c : Array Value), (us.foldl (fun (cs : Array Value) (x : Value × Nat) => cs.setIfInBounds (off + x.2) x.1) c).size = c.size
  | [], _ => rfl
  | _ :: us, c => by simp [size_foldl_sets off us]

theorem getElem?_sets : ∀ (xs cs : List AV) (off p : Nat), off + xs.length ≤ cs.length → (sets cs off xs)[p]? = if off ≤ p ∧ p < off + xs.length then xs[p - off]? else cs[p]?
  | [], cs, off, p, _ => by simp [sets]; intro h1 h2; omega
  | x :: xs, cs, off, p, h => by
    simp only [List.length_cons] at h
    simp only [sets]
    rw [getElem?_sets xs _ (off + 1) p (by simp; omega)]
    simp only [List.length_cons, List.getElem?_set]
    by_cases hp : p = off
    · subst hp
      rw [if_neg (by omega), if_pos rfl, if_pos (by omega), if_pos (by omega)]
      simp
    · by_cases h1 : off + 1 ≤ p ∧ p < off + 1 + xs.length
      · rw [if_pos h1, if_pos (by omega)]
        have : p - off = (p - (off + 1)) + 1 := by omega
        rw [this]; simp
      · rw [if_neg h1, if_neg (by omega), if_neg (by omega)]

theorem CRel.sets {cs xs : List AV} {vs us : Array Value} {off : Nat} (hc : CRel G cs vs.toList) (hx : CRel G xs us.toList) (hle : off + xs.length ≤ cs.length) :
    CRel G (Va.sets cs off xs) (us.zipIdx.foldl (fun (c : Array Value) (x : Value × Nat) => c.setIfInBounds (off + x.2) x.1) vs).toList := by
  have h1 := hc.len
  have h2 := hx.len
  simp only [Array.length_toList] at h1 h2
  have hz : us.zipIdx.foldl (fun (c : Array Value) (x : Value × Nat) => c.setIfInBounds (off + x.2) x.1) vs =
      (us.toList.zipIdx 0).foldl (fun (c : Array Value) (x : Value × Nat) => c.setIfInBounds (off + x.2) x.1) vs := by
    rw [← Array.foldl_toList, Array.toList_zipIdx]
  rw [hz]
  refine ⟨?_, fun i a v ha hv => ?_⟩
  · rw [length_sets, h1]; simp only [Array.length_toList, size_foldl_sets]
  · rw [getElem?_sets xs cs off i hle] at ha
    rw [Array.getElem?_toList, foldl_sets] at hv
    simp only [Nat.add_zero, Nat.sub_zero, Array.length_toList] at hv
    by_cases hp : off ≤ i ∧ i < off + xs.length
    · rw [if_pos hp] at ha
      rw [if_pos (by omega)] at hv
      exact hx.at_ _ a v ha hv
    · rw [if_neg hp] at ha
      rw [if_neg (by omega)] at hv
      exact hc.at_ i a v ha (by simpa using hv)

-- ---------------------------------------------------------------- struct literals
def afill (places : Nat → Option (Nat × Nat)) (cells : List AV) : List (Nat × AV) → Option (List AV)
  | [] => some cells
  | (i, v) :: rest =>
    match places i with
    | none => none
    | some (off, size) => if v.known = true ∧ v.cells.length = size ∧ off + v.cells.length ≤ cells.length then afill places (sets cells off v.cells) rest else none

theorem afill_sound {places : Nat → Option (Nat × Nat)} : ∀ (ps : List (Nat × AV)) (qs : List (Nat × Value)) (cs : List AV) (vs : Array Value) (r : List AV),
    ps.length = qs.length → (∀ (i : Nat) p q, ps[i]? = some p → qs[i]? = some q → p.1 = q.1 ∧ VRel G p.2 q.2) → CRel G cs vs.toList → afill places cs ps = some r →
    ∃ us, Instr.fill places vs qs = some us ∧ CRel G r us.toList
  | [], qs, cs, vs, r, hl, _, hc, h => by
    have : qs = [] := List.eq_nil_of_length_eq_zero hl.symm
    subst this
    cases h
    exact ⟨vs, rfl, hc⟩
  | (i, x) :: ps, qs, cs, vs, r, hl, hr, hc, h => by
    match qs, hl with
    | (i', v) :: qs, hl =>
      obtain ⟨he, hv⟩ := hr 0 _ _ rfl rfl
      simp only at he hv
      subst he
      unfold afill at h
      split at h
      · cases h
      · rename_i off size hp
        split at h
        · rename_i hcond
          obtain ⟨hk, hsz, hle⟩ := hcond
          have hcr := hv.cellsRel hk
          have h1 := hcr.len
          have h2 := hc.len
          simp only [Array.length_toList] at h1 h2
          obtain ⟨us, e1, e2⟩ := afill_sound ps qs (sets cs off x.cells) _ r (by simpa using hl) (fun j p q hp hq => hr (j + 1) p q (by simpa using hp) (by simpa using hq)) (CRel.sets hc hcr hle) h
          refine ⟨us, ?_, e2⟩
          unfold Instr.fill
          rw [hp]
          simp only
          rw [if_neg (by simp; omega)]
          exact e1
        · cases h

def astruct (places : List (Nat × Nat)) (zero : List AV) (parts : List (Nat × AV)) : Option AV := (afill (fun i => places[i]?) zero parts).map .agg
def structPlaces (P : Program) (fs : Array Field) : List (Nat × Nat) := fs.toList.map fun f => (f.offset, P.cellsOf f.type)
def abuild (P : Program) (t : TypeId) (parts : List (Nat × AV)) : Option AV :=
  match P.underlying t with
  | some (.struct fs) =>
    if fs.all fun f => (P.underlying f.type).isSome then
      match azero P t with
      | some (.agg cs) => astruct (structPlaces P fs) cs parts
      | _ => none
    else none
  | _ => none

theorem mapM_places (fs : List Field) (h : ∀ f ∈ fs, (P.underlying f.type).isSome = true) (w : World) :
    (fs.mapM fun f => (do pure (f.offset, ← sizeOf f.type) : Sem (Nat × Nat))).run P w = .ok (fs.map fun f => (f.offset, P.cellsOf f.type)) w := by
  induction fs with
  | nil => simp
  | cons f fs ih =>
    obtain ⟨u, hu⟩ := Option.isSome_iff_exists.1 (h f (by simp))
    have ih' := ih fun f' hf => h f' (by simp [hf])
    simp only [List.mapM_cons, Sem.run_bind, run_sizeOf hu, Result.andThen_ok, Sem.run_pure, ih', List.map_cons]

theorem abuild_sound {t : TypeId} {ps : List (Nat × AV)} {qs : List (Nat × Value)} {r : AV} (h : abuild P t ps = some r) (hl : ps.length = qs.length)
    (hr : ∀ (i : Nat) p q, ps[i]? = some p → qs[i]? = some q → p.1 = q.1 ∧ VRel G p.2 q.2) : ∃ v, (Instr.build t qs.toArray).run P w = .ok v w ∧ VRel G r v := by
  unfold abuild at h
  split at h
  · rename_i fs ht
    split at h
    · rename_i hall
      split at h
      case h_2 => cases h
      rename_i cs hz
      simp only [astruct, Option.map_eq_some_iff] at h
      obtain ⟨rs, hf, rfl⟩ := h
      obtain ⟨zv, hzv, hzr⟩ := azero_run hz
      have hzc : ∃ cv : Array Value, zv = .agg cv ∧ CRel G cs cv.toList := by
        have hrel := VRel.aconst G zv
        rw [← hzv] at hrel
        cases hrel with
        | agg h1 h2 => exact ⟨_, rfl, ⟨by simp [h1], fun i a v ha hv => h2 i a v ha (by simpa using hv)⟩⟩
      obtain ⟨cv, rfl, hcr⟩ := hzc
      obtain ⟨us, e1, e2⟩ := afill_sound ps qs cs cv rs hl hr hcr hf
      have hm : (fs.mapM fun f => (do pure (f.offset, ← sizeOf f.type) : Sem (Nat × Nat))).run P w = .ok (fs.map fun f => (f.offset, P.cellsOf f.type)) w := by
        have := mapM_places (P := P) fs.toList (fun f hf => by have := Array.all_eq_true_iff_forall_mem.1 hall f (by simpa using hf); exact this) w
        rw [← Array.toArray_toList (xs := fs)]
        simp only [List.mapM_toArray, Sem.run_map, this]
        simp only [Result.andThen_ok, Result.ok.injEq, and_true]
        apply Array.ext'
        simp
      have hpl : (fun (i : Nat) => (fs.map fun f => (f.offset, P.cellsOf f.type))[i]?) = fun (i : Nat) => (structPlaces P fs)[i]? := by funext i; simp [structPlaces]
      refine ⟨.agg us, ?_, .agg (by have := e2.len; simpa using this.symm) fun i a v ha hv => e2.at_ i a v ha (by simpa using hv)⟩
      simp only [Instr.build, Sem.run_bind, hzr, Result.andThen_ok, run_underlying ht, hm, Value.cells, hpl, e1]
      rfl
    · cases h
  · cases h

-- ---------------------------------------------------------------- a new row for good
/-- A row whose first cells hold these elements: as a slice. -/
theorem newSl_sound (hr : HRel w0 G H w) {c : Array Value} {t : TypeId} {sz : Nat} {es : List AV} {cap : Nat} (hs : ∀ (i : Nat) (e : AV), es[i]? = some e → e.cells.length = sz)
    (hc : ∀ (i : Nat) (e : AV) (j : Nat) (a : AV), es[i]? = some e → e.cells[j]? = some a → ∃ v, c[i * sz + j]? = some v ∧ VRel G a v)
    (hcap : es.length ≤ cap) (f : Nat × Nat := (0, 0)) :
    ∃ G', Gh.Le H.next G G' ∧ HRel w0 G' H (w.alloc (.cells c t f)) ∧ G'.ce = G.ce ∧ G'.om = G.om ∧ (∀ i, es.length * sz ≤ i → G'.im w.heap.size i = none) ∧
      (∀ g, GrowOk G' w.heap.size 0 es.length sz cap g → VRel G' (.sl g sz es) (.slice (some ⟨w.heap.size, 0, none⟩) es.length cap)) := by
  refine ⟨_, Gh.le_addIm _, hr.newRow c t (es.length * sz) f, rfl, rfl, ?_, ?_⟩
  · intro i hi
    simp only [Gh.addIm, hr.im_lt (Nat.le_refl _), Option.none_or]
    rw [if_neg (by omega)]
  · intro g hg
    have hle : Gh.Le 0 G (G.addIm fun b i => if b = w.heap.size ∧ i < es.length * sz then c[i]? else none) := Gh.le_addIm _
    refine .sl (fun i j => (c[i * sz + j]?).getD undef) hcap hg hs ?_ ?_
    · intro i e j a hi hj
      obtain ⟨v, hv, _⟩ := hc i e j a hi hj
      have h1 : i < es.length := (List.getElem?_eq_some_iff.1 hi).1
      have h2 : j < sz := by have := (List.getElem?_eq_some_iff.1 hj).1; rw [hs i e hi] at this; exact this
      have h3 : i * sz + j < es.length * sz := by
        have : (i + 1) * sz ≤ es.length * sz := Nat.mul_le_mul_right _ h1
        rw [Nat.add_mul] at this; omega
      simp only [Gh.addIm, hr.im_lt (Nat.le_refl _), Option.none_or, Nat.zero_add]
      rw [if_pos ⟨trivial, h3⟩, hv]; rfl
    · intro i e j a hi hj
      obtain ⟨v, hv, hva⟩ := hc i e j a hi hj
      simp only [hv, Option.getD_some]
      exact hva.mono hle

/-- the parts of a slice's literal, one for each place -/
def litOk (sz : Nat) : Nat → List (Nat × AV) → Bool
  | _, [] => true
  | k, (i, v) :: rest => i == k && v.known && v.cells.length == sz && litOk sz (k + 1) rest

theorem fill_lit (sz : Nat) : ∀ (ps : List (Nat × AV)) (qs : List (Nat × Value)) (k : Nat) (vs : Array Value), ps.length = qs.length →
    (∀ (i : Nat) p q, ps[i]? = some p → qs[i]? = some q → p.1 = q.1 ∧ VRel G p.2 q.2) → litOk sz k ps = true → (k + ps.length) * sz ≤ vs.size →
    ∃ us, Instr.fill (fun i => some (i * sz, sz)) vs qs = some us ∧ us.size = vs.size ∧ (∀ p, p < k * sz → us[p]? = vs[p]?) ∧
      ∀ (i : Nat) (p : Nat × AV) (j : Nat) (a : AV), ps[i]? = some p → p.2.cells[j]? = some a → ∃ v, us[(k + i) * sz + j]? = some v ∧ VRel G a v
  | [], qs, k, vs, hl, _, _, _ => by
    have : qs = [] := List.eq_nil_of_length_eq_zero hl.symm
    subst this
    exact ⟨vs, rfl, rfl, fun _ _ => rfl, fun i p j a hi => by simp at hi⟩
  | (i0, x) :: ps, qs, k, vs, hl, hr, hok, hsz => by
    match qs, hl with
    | (i', v) :: qs, hl =>
      obtain ⟨he, hv⟩ := hr 0 _ _ rfl rfl
      simp only at he hv
      subst he
      simp only [litOk, Bool.and_eq_true, beq_iff_eq] at hok
      obtain ⟨⟨⟨rfl, hk⟩, hlen⟩, hok⟩ := hok
      have hcr := hv.cellsRel hk
      have h1 := hcr.len
      simp only [Array.length_toList] at h1
      simp only [List.length_cons] at hsz
      have hmul : (i0 + (ps.length + 1)) * sz = i0 * sz + sz + ps.length * sz := by
        rw [show i0 + (ps.length + 1) = i0 + 1 + ps.length by omega, Nat.add_mul, Nat.add_mul, Nat.one_mul]
      obtain ⟨us, e1, e2, e3, e4⟩ := fill_lit sz ps qs (i0 + 1) ((v.cells.toList.zipIdx 0).foldl (fun (c : Array Value) (x : Value × Nat) => c.setIfInBounds (i0 * sz + x.2) x.1) vs) (by simpa using hl)
        (fun j p q hp hq => hr (j + 1) p q (by simpa using hp) (by simpa using hq)) hok (by rw [size_foldl_sets, Nat.add_mul, Nat.add_mul, Nat.one_mul]; omega)
      refine ⟨us, ?_, by rw [e2, size_foldl_sets], ?_, ?_⟩
      · unfold Instr.fill
        simp only
        rw [if_neg (by simp; omega)]
        rw [← Array.foldl_toList, Array.toList_zipIdx]
        exact e1
      · intro p hp
        rw [e3 p (by rw [Nat.add_mul]; omega), foldl_sets, if_neg (by omega)]
      · intro i p j a hi hj
        cases i with
        | zero =>
          simp only [List.getElem?_cons_zero, Option.some.injEq] at hi
          subst hi
          simp only at hj
          have hjlt : j < sz := by have := (List.getElem?_eq_some_iff.1 hj).1; omega
          have hvj : v.cells.toList[j]? = some (v.cells[j]'(by omega)) := by simp
          refine ⟨_, ?_, hcr.at_ j a _ hj hvj⟩
          rw [Nat.add_zero, e3 (i0 * sz + j) (by rw [Nat.add_mul]; omega), foldl_sets]
          simp only [Nat.add_zero, Array.length_toList, Nat.sub_zero]
          have hroom : i0 * sz + sz ≤ vs.size := by rw [hmul] at hsz; omega
          rw [if_pos (by omega), show i0 * sz + j - i0 * sz = j by omega]
          exact hvj
        | succ i =>
          obtain ⟨u, hu, hua⟩ := e4 i p j a (by simpa using hi) hj
          exact ⟨u, by rw [← hu, show i0 + (i + 1) = i0 + 1 + i by omega], hua⟩

def buildSl (sz len : Nat) (parts : List (Nat × AV)) : Option AV :=
  if parts.length = len ∧ litOk sz 0 parts = true then some (.sl .full sz (parts.map (·.2))) else none
def abuildSl (P : Program) (t : TypeId) (len : Nat) (parts : List (Nat × AV)) : Option AV :=
  match P.underlying t with
  | some (.slice e) =>
    if len * P.cellsOf e ≤ 16777216 ∧ ((azero P e).any fun z => z.cells.length == P.cellsOf e && z.known) ∧ (P.underlying e).isSome then buildSl (P.cellsOf e) len parts else none
  | _ => none
theorem abuildSl_sound (hr : HRel w0 G H w) {t : TypeId} {len : Nat} {ps : List (Nat × AV)} {qs : List (Nat × Value)} {r : AV} (h : abuildSl P t len ps = some r) (hl : ps.length = qs.length)
    (hv : ∀ (i : Nat) p q, ps[i]? = some p → qs[i]? = some q → p.1 = q.1 ∧ VRel G p.2 q.2) {K : AV → AH → Prop} (k : K r H) :
    ∃ v w', (Instr.buildSlice t len qs.toArray).run P w = .ok v w' ∧ Post w0 G H K v w' := by
  unfold abuildSl at h
  split at h
  · rename_i e ht
    split at h
    · rename_i hc
      obtain ⟨hsmall, hz, hu⟩ := hc
      unfold buildSl at h
      split at h
      case isFalse => cases h
      rename_i hc
      obtain ⟨hlen, hok⟩ := hc
      obtain ⟨u, hu⟩ := Option.isSome_iff_exists.1 hu
      cases h
      have hz' : ∃ z, azero P e = some z ∧ (z.cells.length == P.cellsOf e && z.known) = true := by
        cases ha : azero P e with
        | none => rw [ha] at hz; simp at hz
        | some z => rw [ha] at hz; exact ⟨z, rfl, by simpa using hz⟩
      obtain ⟨z, hz1, hz2⟩ := hz'
      simp only [Bool.and_eq_true, beq_iff_eq] at hz2
      obtain ⟨zv, hzv, hzr⟩ := azero_run hz1
      have hzc : zv.cells.size = P.cellsOf e := by
        have h1 := (VRel.aconst G zv).cellsRel (by rw [← hzv]; exact hz2.2)
        have := h1.len
        rw [← hzv, hz2.1] at this
        simpa using this.symm
      let zero : Array Value := if len * P.cellsOf e = 0 then #[] else zv.cells
      let cells : Array Value := (Array.range (len * P.cellsOf e)).map (zero[· % zero.size]!)
      obtain ⟨us, e1, e2, _, e4⟩ := fill_lit (G := G) (P.cellsOf e) ps qs 0 cells hl hv hok (by simp [cells, hlen])
      obtain ⟨G', g1, g2, g3, _, _, g5⟩ := newSl_sound (w := w) hr (c := us) (t := e) (sz := P.cellsOf e) (es := ps.map (·.2)) (cap := len)
        (by
          intro i a ha
          simp only [List.getElem?_map, Option.map_eq_some_iff] at ha
          obtain ⟨p, hp, rfl⟩ := ha
          have : ∀ (ps : List (Nat × AV)) (k i : Nat) (p : Nat × AV), litOk (P.cellsOf e) k ps = true → ps[i]? = some p → p.2.cells.length = P.cellsOf e := by
            intro ps
            induction ps with
            | nil => intro k i p _ h; simp at h
            | cons q ps ih =>
              intro k i p hok h
              simp only [litOk, Bool.and_eq_true, beq_iff_eq] at hok
              cases i with
              | zero => simp at h; subst h; exact hok.1.2
              | succ i => exact ih (k + 1) i p hok.2 (by simpa using h)
          exact this ps 0 i p hok hp)
        (by
          intro i a j c ha hc'
          simp only [List.getElem?_map, Option.map_eq_some_iff] at ha
          obtain ⟨p, hp, rfl⟩ := ha
          simpa using e4 i p j c hp hc')
        (by simp [hlen])
      refine ⟨_, _, ?_, G', H, _, g1, Nat.le_refl _, g2, g5 .full (by simp [GrowOk, hlen]), k⟩
      have hcells : ∀ zz : Array Value, zz = zero → (Array.range (len * P.cellsOf e)).map (zz[· % zz.size]!) = cells := fun zz h => by subst h; rfl
      simp only [Instr.buildSlice, Sem.run_bind, run_underlying ht, Result.andThen_ok, run_sizeOf hu, Sem.run_ite, Sem.run_pure]
      rw [if_neg (by omega)]
      by_cases h0 : len * P.cellsOf e = 0
      · have hze : zero = #[] := by simp [zero, h0]
        simp only [h0, if_true, Sem.run_pure, Result.andThen_ok]
        have hc0 := hcells #[] hze.symm
        rw [h0] at hc0
        rw [hc0, e1]
        simp [newRow, hlen]
      · have hze : zero = zv.cells := by simp [zero, h0]
        simp only [h0, if_false, Sem.run_bind, hzr, Result.andThen_ok, Sem.run_pure]
        rw [hcells zv.cells hze.symm, e1]
        simp [newRow, hlen]
    · cases h
  · cases h
end
end Go.Va
