/-
  Slices on objects of their own: made, appended to, copied into, cleared in place.
-/
import Derived.Test.YtfldcobcnlgapaaGreatDoorVaBi
import Derived.Laws.MakeOwn
set_option linter.unusedVariables false
set_option linter.unusedSimpArgs false
set_option linter.unnecessarySimpa false
namespace Go.Va
open Go.RowKit (Below)

/-- n times the same cells -/
def rep (n : Nat) (z : List AV) : List AV := (List.replicate n z).flatten
@[simp] theorem length_rep (n : Nat) (z : List AV) : (rep n z).length = n * z.length := by simp [rep]
theorem getElem?_rep : ∀ (n : Nat) (z : List AV) (i : Nat), i < n * z.length → (rep n z)[i]? = z[i % z.length]?
  | 0, z, i, h => by omega
  | n + 1, z, i, h => by
    have e : rep (n + 1) z = z ++ rep n z := by simp [rep, List.replicate_succ]
    rw [e]
    by_cases hi : i < z.length
    · rw [List.getElem?_append_left hi, Nat.mod_eq_of_lt hi]
    · rw [List.getElem?_append_right (by omega), getElem?_rep n z _ (by rw [Nat.add_mul] at h; omega)]
      congr 1
      rw [← Nat.mod_eq_sub_mod (by omega)]

section
variable {P : Program} {w0 w : World} {G : Gh} {H : AH}

/-- how many elements are to be taken, and their cells -/
def ofl (sz : Nat) (x : AV) (H : AH) : Option (Nat × List AV) :=
  match x with
  | .osl o off n _ => match H.get o with
    | some (.cells cs) => if off + n * sz ≤ cs.length then some (n, (cs.drop off).take (n * sz)) else none
    | _ => none
  | .sl g sz' es => (asrc sz (.sl g sz' es)).map fun es => (es.length, flat es)
  | .nils => some (0, [])
  | .str s => (asrc sz (.str s)).map fun es => (es.length, flat es)
  | _ => none

theorem own_cells (hr : HRel w0 G H w) {o b off m : Nat} {cs : List AV} (ho : H.get o = some (.cells cs)) (hm : G.om o = some b) (hle : off + m ≤ cs.length) :
    ∃ arr : Array Value, (loadCells ⟨b, off, none⟩ m).run P w = .ok arr w ∧ CRel G ((cs.drop off).take m) arr.toList := by
  have hcell : ∀ j, j < m → ∃ v, w.cell? ⟨b, off + j, none⟩ = some v ∧ VRel G (cs[off + j]?.getD .undef) v := fun j hj => by
    obtain ⟨v, h1, _, h3⟩ := hr.getElem_cells ho hm (i := off + j) (List.getElem?_eq_getElem (by omega))
    exact ⟨v, h1, by rw [List.getElem?_eq_getElem (by omega)]; exact h3⟩
  let f : Nat → Value := fun j => (w.cell? ⟨b, off + j, none⟩).getD undef
  have hrun := run_loadCells (P := P) w ⟨b, off, none⟩ m f (fun j hj => by
    obtain ⟨v, hv, _⟩ := hcell j hj
    rw [Addr.add_lit]
    simp [f, hv])
  refine ⟨_, hrun, by simp; omega, fun i a v ha hv => ?_⟩
  have hi : i < m := by have := (List.getElem?_eq_some_iff.1 ha).1; simp at this; omega
  rw [List.getElem?_take_of_lt hi, List.getElem?_drop] at ha
  obtain ⟨u, hu, hru⟩ := hcell i hi
  rw [ha] at hru
  simp [hi, f, hu] at hv
  subst hv
  exact hru

theorem flat_take {sz : Nat} : ∀ (es : List AV) (m : Nat), (∀ (i : Nat) (e : AV), es[i]? = some e → e.cells.length = sz) → flat (es.take m) = (flat es).take (m * sz)
  | [], m, _ => by simp [flat]
  | e :: es, 0, _ => by simp [flat]
  | e :: es, m + 1, h => by
    have h0 := h 0 e rfl
    have ih := flat_take es m (fun i x hx => h (i + 1) x (by simpa using hx))
    simp only [flat, List.take_succ_cons, List.flatMap_cons] at *
    rw [ih, List.take_append, h0]
    have e1 : (m + 1) * sz = sz + m * sz := by rw [Nat.add_mul]; omega
    rw [e1, List.take_of_length_le (l := e.cells) (by rw [h0]; omega), Nat.add_sub_cancel_left]

theorem ofl_sound (hr : HRel w0 G H w) {sz : Nat} {x : AV} {vx : Value} {k : Nat} {fx : List AV} (h : ofl sz x H = some (k, fx)) (hpos : 0 < sz) (hx : VRel G x vx) :
    fx.length = k * sz ∧ (Builtin.lenOf vx).run P w = .ok k w ∧ ∀ m, m ≤ k → ∃ arr : Array Value, (Builtin.firstCells sz m vx).run P w = .ok arr w ∧ CRel G (fx.take (m * sz)) arr.toList := by
  unfold ofl at h
  split at h
  · rename_i o off n cap
    split at h
    · rename_i cs ho
      split at h
      · rename_i hle
        cases h
        cases hx with
        | osl off n cap hm hc =>
          refine ⟨by simp; omega, by simp [Builtin.lenOf], fun m hm' => ?_⟩
          have hml : m * sz ≤ k * sz := Nat.mul_le_mul_right _ hm'
          obtain ⟨arr, h1, h2⟩ := own_cells (P := P) hr ho hm (off := off) (m := m * sz) (by omega)
          refine ⟨arr, by simpa [Builtin.firstCells] using h1, ?_⟩
          rw [List.take_take, Nat.min_eq_left hml]; exact h2
      · cases h
    · cases h
  · rename_i g sz' es
    simp only [Option.map_eq_some_iff, Prod.mk.injEq] at h
    obtain ⟨xs, hes, rfl, rfl⟩ := h
    obtain ⟨arr, h1, h2, h3, h4⟩ := asrc_sound (P := P) hr hes hpos hx
    have hl := length_flat xs h4
    refine ⟨hl, h1, fun m hm => ?_⟩
    simp only [asrc] at hes
    split at hes
    · rename_i he
      cases hes
      subst he
      cases hx with
      | sl vals hc hg hs g1 g2 =>
        rename_i b off cap
        have hat : ∀ (i : Nat) (e : AV), (es.take m)[i]? = some e → es[i]? = some e := fun i e hi => by
          have hlt := (List.getElem?_eq_some_iff.1 hi).1
          simp at hlt
          rwa [List.getElem?_take_of_lt (by omega)] at hi
        obtain ⟨arr', e1, e2⟩ := sl_cells (P := P) hr (es := es.take m) (vals := vals) hpos (fun i e hi => hs i e (hat i e hi)) (fun i e j c hi hj => g1 i e j c (hat i e hi) hj) (fun i e j c hi hj => g2 i e j c (hat i e hi) hj)
        have hml : (es.take m).length = m := by simp; omega
        rw [hml] at e1
        refine ⟨arr', by simpa [Builtin.firstCells] using e1, ?_⟩
        rw [← flat_take es m hs]; exact e2
    · cases hes
  · cases h
    cases hx
    refine ⟨by simp, by simp [Builtin.lenOf], fun m hm => ⟨#[], by simp [Builtin.firstCells], by simp, fun i a v ha => by simp at ha⟩⟩
  · rename_i s
    simp only [Option.map_eq_some_iff, Prod.mk.injEq] at h
    obtain ⟨xs, hes, rfl, rfl⟩ := h
    obtain ⟨arr, h1, h2, h3, h4⟩ := asrc_sound (P := P) hr hes hpos hx
    have hl := length_flat xs h4
    refine ⟨hl, h1, fun m hm => ?_⟩
    simp only [asrc] at hes
    split at hes
    · rename_i he
      cases hes
      cases hx
      have hs' : (s.take m).length = m := by simp at hm; simp; omega
      obtain ⟨arr', e1, e2, e3, e4⟩ := asrc_sound (P := P) hr (sz := sz) (x := .str (s.take m)) (xs := (s.take m).map fun b => .int .u8 b.toNat) (by simp [asrc, he]) hpos (.str _)
      refine ⟨arr', ?_, ?_⟩
      · simp only [List.length_map, hs'] at e2
        rw [← e2]
        simp only [Builtin.firstCells]
        congr 2
        simp [ByteArray.data_extract, List.take_take]
      · rw [← flat_take _ m h4, ← List.map_take]; exact e3
    · cases hes
  · cases h

/-- A new object under a slice. -/
theorem newOwn_sound (hr : HRel w0 G H w) {cs : List AV} {arr : Array Value} {n cap : Nat} (hc : ∀ (i : Nat) (x : AV), cs[i]? = some x → ∃ v, arr[i]? = some v ∧ VRel G x v) (hn : n ≤ cap) (t : TypeId) {K : AV → AH → Prop}
    (k : K (.osl H.next 0 n cap) (H.add (.cells cs))) : Post w0 G H K (.slice (some ⟨w.heap.size, 0, none⟩) n cap) (w.alloc (.cells arr t)) := by
  have hn' : G.om H.next = none := hr.om_lt (Nat.le_refl _)
  have hle : Gh.Le H.next G (G.setOm H.next w.heap.size) := Gh.le_setOm (Nat.le_refl _) hn'
  have hget : (H.add (.cells cs)).get H.next = some (.cells cs) := by simp [AH.add]
  refine ⟨_, _, _, hle, by simp [AH.add], (hr.add (.cells cs)).place hget hn' (.cells arr t) ?_, .osl 0 n cap (by simp [Gh.setOm]) hn, k⟩
  intro i a ha
  obtain ⟨v, hv, hva⟩ := hc i a ha
  exact ⟨v, by simp [hv], by simp, hva.mono hle⟩

/-- An append that leaves its slice on an object of its own. -/
def appo (sz by_ : Nat) (s : AV) (src : Option (Nat × List AV)) (H : AH) (K : AV → AH → Prop) : Prop :=
  match src with
  | none => False
  | some (k, fx) =>
    match s with
    | .nils => if k = 0 then K .nils H else (2 * k + 1024) * by_ ≤ 281474976710656 ∧ k ≤ 9223372036854775807 ∧ ∀ c, k ≤ c → K (.osl H.next 0 k c) (H.add (.cells (fx ++ List.replicate ((c - k) * sz) .undef)))
    | .osl o off n cap => match H.get o with
      | some (.cells cs) =>
        if off + n * sz ≤ cs.length then
          if n + k ≤ cap then off + (n + k) * sz ≤ cs.length ∧ fx.all AV.one = true ∧ K (.osl o off (n + k) cap) (H.put o (.cells (sets cs (off + n * sz) fx)))
          else (2 * (n + k) + 1024) * by_ ≤ 281474976710656 ∧ n + k ≤ 9223372036854775807 ∧
            ∀ c, n + k ≤ c → K (.osl H.next 0 (n + k) c) (H.add (.cells ((cs.drop off).take (n * sz) ++ fx ++ List.replicate ((c - (n + k)) * sz) .undef)))
        else False
      | _ => False
    | _ => False

theorem cells_grown {fx ox : List AV} {old new : Array Value} {m : Nat} {z : Array Value} (ho : CRel G ox old.toList) (hn : CRel G fx new.toList) :
    ∀ (i : Nat) (x : AV), (ox ++ fx ++ List.replicate (m * z.size) AV.undef)[i]? = some x → ∃ v, (old ++ new ++ Builtin.zeroCells z m)[i]? = some v ∧ VRel G x v := by
  intro i x hi
  have h1 := ho.len
  have h2 := hn.len
  simp only [Array.length_toList] at h1 h2
  have hlt := (List.getElem?_eq_some_iff.1 hi).1
  have hsz : (old ++ new ++ Builtin.zeroCells z m).size = ox.length + fx.length + m * z.size := by simp [size_zeroCells, h1, h2, Nat.add_assoc]
  have hlt' : i < (old ++ new ++ Builtin.zeroCells z m).size := by rw [hsz]; simp at hlt; omega
  refine ⟨_, Array.getElem?_eq_getElem hlt', ?_⟩
  rw [List.getElem?_append] at hi
  split at hi
  · rename_i hi1
    rw [List.getElem?_append] at hi
    rw [Array.getElem_append_left (by simp at hi1; simp; omega)]
    split at hi
    · rename_i hi2
      rw [Array.getElem_append_left (by omega)]
      exact ho.at_ i x _ hi (by simp)
    · rename_i hi2
      rw [Array.getElem_append_right (by omega)]
      simp only [List.length_append] at hi1
      refine hn.at_ (i - ox.length) x _ hi ?_
      simp only [Array.getElem?_toList, h1]
      exact Array.getElem?_eq_getElem _
  · rename_i hi1
    have : x = .undef := by
      have := List.mem_of_getElem? hi
      exact List.eq_of_mem_replicate this
    subst this
    exact .undef _

set_option maxHeartbeats 1000000 in
theorem appo_sound (hr : HRel w0 G H w) {ts tx ty e : TypeId} {ux : TypeDesc} {s x : AV} {vs vx : Value} (hts : P.underlying ts = some (.slice e)) (htx : P.underlying tx = some ux) (hnot : (∃ e', ux = .slice e') ∨ ux = .string)
    (hel : elemOk P e = true) {K : AV → AH → Prop} (h : appo (P.cellsOf e) (P.bytesOf e) s (ofl (P.cellsOf e) x H) H K) (hs : VRel G s vs) (hx : VRel G x vx) :
    ∃ v w', (Builtin.append_ #[ts, tx] ty #[vs, vx]).run P w = .ok v w' ∧ Post w0 G H K v w' := by
  obtain ⟨hpos, i, zv, hi, hiz, hzs, hsz, hby⟩ := elemOk_spec hel
  unfold appo at h
  split at h
  · exact h.elim
  rename_i k fx hsrc
  obtain ⟨hfl, hl, hf⟩ := ofl_sound (P := P) hr hsrc hpos hx
  obtain ⟨_, hl', hf'⟩ := ofl_sound (P := P) hr.drew hsrc hpos hx
  obtain ⟨new, hf, hcn⟩ := hf k (Nat.le_refl _)
  obtain ⟨new', hf', hcn'⟩ := hf' k (Nat.le_refl _)
  rw [List.take_of_length_le (by omega)] at hcn hcn'
  have hcap : ∀ (need cap : Nat), cap < need → (2 * need + 1024) * P.bytesOf e ≤ 281474976710656 → ¬ (Builtin.nextslicecap need cap * i.bytes > 281474976710656) := by
    intro need cap hlt hb
    have h1 := nextslicecap_le hlt
    have h2 : Builtin.nextslicecap need cap * i.bytes ≤ (2 * need + 1024) * i.bytes := Nat.mul_le_mul_right _ h1
    rw [hby] at h2 ⊢
    omega
  split at h
  · cases hs
    split at h
    · rename_i hk; subst hk
      exact ⟨_, _, run_append_nilnil hts htx hnot hi hl (by rw [hsz]; exact hf), Post.same hr .nils h⟩
    · rename_i hk
      obtain ⟨hb, h63, h⟩ := h
      refine ⟨_, _, run_append_fresh (old := #[]) (new := new') hts htx hnot hi hiz hl (by simp [Builtin.firstCells]) (by rw [hsz]; exact hf') (by omega) (by omega) (hcap _ _ (by omega) (by simpa using hb)), ?_⟩
      have hge := grownCap_ge' w (0 + k) 0 e
      have := newOwn_sound (w := w.drew) hr.drew (cs := fx ++ List.replicate ((grownCap w (0 + k) 0 e - k) * P.cellsOf e) .undef) (arr := #[] ++ new' ++ Builtin.zeroCells zv.cells (grownCap w (0 + k) 0 e - (0 + k))) (n := 0 + k) (cap := grownCap w (0 + k) 0 e)
        (by have := cells_grown (ox := []) (old := #[]) (m := grownCap w (0 + k) 0 e - (0 + k)) (z := zv.cells) ⟨rfl, fun i a v ha => by simp at ha⟩ hcn'
            rw [hzs] at this; simpa using this) hge e (K := K) (by have := h (grownCap w (0 + k) 0 e) (by omega); simpa using this)
      simpa using this
  · rename_i o off n cap
    split at h
    case h_2 => exact h.elim
    rename_i cs ho
    split at h
    case isFalse => exact h.elim
    rename_i hle
    cases hs with
    | osl off n cap hm hc =>
      rename_i b
      split at h
      · rename_i hfit
        obtain ⟨hle2, hone, h⟩ := h
        obtain ⟨w', h1, h2⟩ := stores_sound (P := P) fx new.toList cs H w (off + n * P.cellsOf e) 0 hr ho hm hcn hone (by rw [hfl]; rw [Nat.add_mul] at hle2; omega)
        refine ⟨_, _, run_append_fits (off := off) (w' := w') hts htx hnot hi hl (by rw [hsz]; exact hf) (by rw [hsz]; exact h1) hfit, ?_⟩
        exact ⟨G, H.put o (.cells (sets cs (off + n * P.cellsOf e) fx)), _, .refl _ _, Nat.le_refl _, by simpa using h2, .osl off (n + k) cap hm hfit, h⟩
      · rename_i hfit
        obtain ⟨hb, h63, h⟩ := h
        obtain ⟨old, ho1, ho2⟩ := own_cells (P := P) hr.drew ho hm (off := off) (m := n * P.cellsOf e) hle
        refine ⟨_, _, run_append_fresh (old := old) (new := new') hts htx hnot hi hiz hl (by rw [hsz]; simpa [Builtin.firstCells] using ho1) (by rw [hsz]; exact hf') (by omega) (by omega) (hcap _ _ (by omega) hb), ?_⟩
        have hge := grownCap_ge' w (n + k) cap e
        have := newOwn_sound (w := w.drew) hr.drew (cs := (cs.drop off).take (n * P.cellsOf e) ++ fx ++ List.replicate ((grownCap w (n + k) cap e - (n + k)) * P.cellsOf e) .undef) (arr := old ++ new' ++ Builtin.zeroCells zv.cells (grownCap w (n + k) cap e - (n + k))) (n := n + k) (cap := grownCap w (n + k) cap e)
          (by have := cells_grown (m := grownCap w (n + k) cap e - (n + k)) (z := zv.cells) ho2 hcn'
              rw [hzs] at this; exact this) hge e (K := K) (h (grownCap w (n + k) cap e) hge)
        simpa using this
  · exact h.elim

-- ---------------------------------------------------------------- make
def mkSl (by_ : Nat) (z : List AV) (l c : AV) (H : AH) : Option (AV × AH) :=
  match l, c with
  | .int _ l, .int _ c => if 0 ≤ l ∧ l ≤ c ∧ c * by_ ≤ 281474976710656 ∧ c ≤ 9223372036854775807 then some (.osl H.next 0 l.toNat c.toNat, H.add (.cells (rep c.toNat z))) else none
  | _, _ => none
def amake (P : Program) (t : TypeId) (l c : AV) (H : AH) : Option (AV × AH) :=
  match P.underlying t with
  | some (.slice e) => if elemOk P e then (azero P e).bind fun z => mkSl (P.bytesOf e) z.cells l c H else none
  | _ => none

theorem zero_cells {e : TypeId} {z : AV} (hz : azero P e = some z) (hel : elemOk P e = true) : ∃ zv : Value, (∀ w, (zeroValue e).run P w = .ok zv w) ∧ CRel G z.cells zv.cells.toList ∧ zv.cells.size = P.cellsOf e ∧ z.cells.length = P.cellsOf e := by
  obtain ⟨hpos, i, zv, hi, hiz, hzs, hsz, hby⟩ := elemOk_spec hel
  have h1 := hel
  simp only [elemOk, hz, Bool.and_eq_true, decide_eq_true_eq, Option.any_some, beq_iff_eq] at h1
  have hzz : z = aconst zv := by
    simp only [azero, hi, hiz, Option.bind_some, Option.map_some, Option.some.injEq] at hz; exact hz.symm
  refine ⟨zv, fun w => by simp [zeroValue, typeInfo, hi, hiz], ?_, hzs, h1.1.1⟩
  subst hzz
  exact (VRel.aconst G zv).cellsRel h1.1.2

theorem rep_rel {z : List AV} {zs : Array Value} {arr : Array Value} {n : Nat} (hz : CRel G z zs.toList) (ha : arr = (Array.range (n * zs.size)).map (zs[· % zs.size]!)) : CRel G (rep n z) arr.toList := by
  subst ha
  have h1 := hz.len
  simp only [Array.length_toList] at h1
  refine ⟨by simp [h1], fun i a v hi hv => ?_⟩
  have hlt := (List.getElem?_eq_some_iff.1 hi).1
  simp only [length_rep] at hlt
  rw [getElem?_rep n z i hlt, h1] at hi
  have hpos : 0 < zs.size := by
    rcases Nat.eq_zero_or_pos zs.size with h0 | h0
    · rw [h1, h0, Nat.mul_zero] at hlt; omega
    · exact h0
  have hm := Nat.mod_lt i hpos
  refine hz.at_ _ a v hi ?_
  rw [h1] at hlt
  simp [hlt] at hv
  subst hv
  simp [hm]

theorem make_sound (hr : HRel w0 G H w) {t : TypeId} {l c r : AV} {vl vc : Value} {H' : AH} (h : amake P t l c H = some (r, H')) (hl : VRel G l vl) (hc : VRel G c vc) {K : AV → AH → Prop} (k : K r H') :
    ∃ v w', (Instr.makeSlice t vl vc).run P w = .ok v w' ∧ Post w0 G H K v w' := by
  unfold amake at h
  split at h
  case h_2 => cases h
  rename_i e ht
  split at h
  case isFalse => cases h
  rename_i hel
  simp only [Option.bind_eq_some_iff] at h
  obtain ⟨z, hz, h⟩ := h
  obtain ⟨hpos, i, zv', hi, hiz, hzs', hsz, hby⟩ := elemOk_spec hel
  obtain ⟨zv, hzr, hzc, hzs, hzl⟩ := zero_cells (G := G) hz hel
  unfold mkSl at h
  split at h
  case h_2 => cases h
  rename_i k1 l k2 c
  split at h
  case isFalse => cases h
  rename_i hcond
  obtain ⟨h1, h2, h3, h4⟩ := hcond
  cases h
  cases hl; cases hc
  have hb' : (i.bytes : Int) * c ≤ 281474976710656 := by rw [hby, Int.mul_comm]; exact h3
  have hzz : i.zero = some zv := by
    have e1 : (zeroValue e).run P w = .ok zv' w := by simp [zeroValue, typeInfo, hi, hiz]
    rw [hzr w] at e1; cases e1; exact hiz
  have hrun := run_make (P := P) w t e i zv ht hi hzz k1 k2 l c h1 h2 hb' h4
  have hmc : madeCells zv.cells (c.toNat * i.size) = (Array.range (c.toNat * zv.cells.size)).map (zv.cells[· % zv.cells.size]!) := by
    rw [hsz, ← hzs]; rfl
  rw [hmc] at hrun
  refine ⟨_, _, hrun, newOwn_sound hr (cs := rep c.toNat z.cells) ?_ (by omega) e k⟩
  intro j x hj
  have := rep_rel (G := G) (n := c.toNat) hzc rfl
  have hlt := (List.getElem?_eq_some_iff.1 hj).1
  have hl2 := this.len
  simp only [Array.length_toList] at hl2
  have hv := Array.getElem?_eq_getElem (xs := (Array.range (c.toNat * zv.cells.size)).map (zv.cells[· % zv.cells.size]!)) (i := j) (by omega)
  exact ⟨_, hv, this.at_ j x _ hj (by rw [Array.getElem?_toList]; exact hv)⟩

-- ---------------------------------------------------------------- copy, clear, cap
def ocopy (sz : Nat) (d : AV) (src : Option (Nat × List AV)) (H : AH) : Option (AV × AH) :=
  match src with
  | none => none
  | some (k, fx) =>
    match d with
    | .nils => some (goI 0, H)
    | .osl o off n _ => match H.get o with
      | some (.cells cs) => if off + n * sz ≤ cs.length ∧ (fx.take (min k n * sz)).all AV.one = true then some (goI (min k n), H.put o (.cells (sets cs off (fx.take (min k n * sz))))) else none
      | _ => none
    | _ => none
def acopy (P : Program) (t : TypeId) (d s : AV) (H : AH) : Option (AV × AH) :=
  match P.underlying t with
  | some (.slice e) => if elemOk P e then ocopy (P.cellsOf e) d (ofl (P.cellsOf e) s H) H else none
  | _ => none
theorem copy_sound (hr : HRel w0 G H w) {t ty : TypeId} {ts : Array TypeId} {d s r : AV} {vd vs : Value} {H' : AH} (ht0 : ts[0]? = some t) (h : acopy P t d s H = some (r, H')) (hd : VRel G d vd) (hs : VRel G s vs) {K : AV → AH → Prop} (k : K r H') :
    ∃ v w', (Builtin.copy_ ts ty #[vd, vs]).run P w = .ok v w' ∧ Post w0 G H K v w' := by
  unfold acopy at h
  split at h
  case h_2 => cases h
  rename_i e ht
  split at h
  case isFalse => cases h
  rename_i hel
  obtain ⟨hpos, i, zv, hi, hiz, hzs, hsz, hby⟩ := elemOk_spec hel
  unfold ocopy at h
  split at h
  · cases h
  rename_i kk fx hsrc
  obtain ⟨hfl, hl, hf⟩ := ofl_sound (P := P) hr hsrc hpos hs
  split at h
  · cases h
    cases hd
    obtain ⟨arr, h1, h2⟩ := hf 0 (Nat.zero_le _)
    refine ⟨goInt 0, w, ?_, G, H, _, .refl _ _, Nat.le_refl _, hr, .int _ _, k⟩
    simp [Builtin.copy_, ht0, run_underlying ht, hl, sizeOf, typeInfo, hi, hsz, h1, goInt]
  · rename_i o off n cap
    split at h
    case h_2 => cases h
    rename_i cs ho
    split at h
    case isFalse => cases h
    rename_i hc
    obtain ⟨hle, hone⟩ := hc
    cases h
    cases hd with
    | osl off n cap hm hcap =>
      rename_i b
      obtain ⟨arr, h1, h2⟩ := hf (min kk n) (Nat.min_le_left _ _)
      have hml : min kk n * P.cellsOf e ≤ n * P.cellsOf e := Nat.mul_le_mul_right _ (Nat.min_le_right _ _)
      have hmk : min kk n * P.cellsOf e ≤ kk * P.cellsOf e := Nat.mul_le_mul_right _ (Nat.min_le_left _ _)
      obtain ⟨w', h3, h4⟩ := stores_sound (P := P) (fx.take (min kk n * P.cellsOf e)) arr.toList cs H w off 0 hr ho hm h2 hone (by simp only [List.length_take, Nat.add_zero]; omega)
      refine ⟨.int .i64 (min kk n : Nat), w', ?_, G, H.put o (.cells (sets cs off (fx.take (min kk n * P.cellsOf e)))), _, .refl _ _, Nat.le_refl _, by simpa using h4, .int _ _, k⟩
      have hmin : kk.min n = min kk n := rfl
      have hso : (sizeOf e).run P w = .ok (P.cellsOf e) w := by simp [sizeOf, typeInfo, hi, hsz]
      simp only [Builtin.copy_, ht0, List.getElem?_toArray, List.getElem?_cons_zero, List.getElem?_cons_succ, Sem.run_bind, run_underlying ht, Result.andThen_ok, hl, hso, Sem.run_pure, hmin, h1, h3, goInt]
  · cases h

def oclear (sz : Nat) (z : List AV) (x : AV) (H : AH) : Option AH :=
  match x with
  | .nils => some H
  | .osl o off n _ => if n = 0 then some H else match H.get o with
    | some (.cells cs) => if off + n * sz ≤ cs.length ∧ z.all AV.one = true then some (H.put o (.cells (sets cs off (rep n z)))) else none
    | _ => none
  | _ => none
def aclear (P : Program) (t : TypeId) (x : AV) (H : AH) : Option AH :=
  match P.underlying t with
  | some (.slice e) => if elemOk P e then (azero P e).bind fun z => oclear (P.cellsOf e) z.cells x H else none
  | _ => none
theorem rep_all {n : Nat} {z : List AV} (h : z.all AV.one = true) : (rep n z).all AV.one = true := by
  simp only [rep, List.all_eq_true, List.mem_flatten, List.mem_replicate] at *
  rintro x ⟨l, ⟨_, rfl⟩, hx⟩; exact h x hx
theorem clear_sound (hr : HRel w0 G H w) {t ty : TypeId} {ts : Array TypeId} {x : AV} {vx : Value} {H' : AH} (ht0 : ts[0]? = some t) (h : aclear P t x H = some H') (hx : VRel G x vx) {K : AV → AH → Prop} {nothing' : AV} (hnot : nothing' = .tup []) (k : K nothing' H') :
    ∃ v w', (Builtin.clear_ ts ty #[vx]).run P w = .ok v w' ∧ Post w0 G H K v w' := by
  subst hnot
  unfold aclear at h
  split at h
  case h_2 => cases h
  rename_i e ht
  split at h
  case isFalse => cases h
  rename_i hel
  simp only [Option.bind_eq_some_iff] at h
  obtain ⟨z, hz, h⟩ := h
  obtain ⟨zv, hzr, hzc, hzs, hzl⟩ := zero_cells (G := G) hz hel
  unfold oclear at h
  split at h
  · cases h
    cases hx
    refine ⟨.tuple #[], w, by simp [Builtin.clear_, ht0, run_underlying ht], G, _, _, .refl _ _, Nat.le_refl _, hr, .tup rfl (fun i a v h => by simp at h), k⟩
  · rename_i o off n cap
    cases hx with
    | osl off n cap hm hcap =>
      rename_i b
      split at h
      · rename_i h0
        subst h0
        cases h
        refine ⟨.tuple #[], w, by simp [Builtin.clear_, ht0, run_underlying ht], G, _, _, .refl _ _, Nat.le_refl _, hr, .tup rfl (fun i a v h => by simp at h), k⟩
      · rename_i h0
        split at h
        case h_2 => cases h
        rename_i cs ho
        split at h
        case isFalse => cases h
        rename_i hc
        obtain ⟨hle, hone⟩ := hc
        cases h
        have hrr := rep_rel (G := G) (n := n) (arr := Builtin.zeroCells zv.cells n) hzc rfl
        obtain ⟨w', h3, h4⟩ := stores_sound (P := P) (rep n z.cells) (Builtin.zeroCells zv.cells n).toList cs H w off 0 hr ho hm hrr (rep_all hone) (by simp [hzl]; exact hle)
        refine ⟨.tuple #[], w', ?_, G, H.put o (.cells (sets cs off (rep n z.cells))), _, .refl _ _, Nat.le_refl _, by simpa using h4, .tup rfl (fun i a v h => by simp at h), k⟩
        obtain ⟨n', rfl⟩ : ∃ n', n = n' + 1 := ⟨n - 1, by omega⟩
        simp [Builtin.clear_, ht0, run_underlying ht, hzr, h3]
  · cases h

def capSl (x : AV) : Option AV :=
  match x with
  | .nils => some (goI 0)
  | .sl .full _ es => some (goI es.length)
  | .osl _ _ _ c => some (goI c)
  | _ => none
def acap (P : Program) (t : TypeId) (x : AV) : Option AV :=
  match P.underlying t with
  | some (.slice _) => capSl x
  | _ => none
theorem acap_sound {t ty : TypeId} {ts : Array TypeId} {x r : AV} {vx : Value} (h : acap P t x = some r) (hx : VRel G x vx) (ht0 : ts[0]? = some t) : ∃ v, (Builtin.cap_ ts ty #[vx]).run P w = .ok v w ∧ VRel G r v := by
  unfold acap at h
  split at h
  case h_2 => cases h
  rename_i e ht
  unfold capSl at h
  split at h
  · cases h; cases hx
    exact ⟨_, by simp [Builtin.cap_, ht0, run_underlying ht, goInt], .int _ _⟩
  · cases h
    cases hx with
    | sl vals hc hg hs h1 h2 =>
      simp only [GrowOk] at hg
      subst hg
      exact ⟨_, by simp [Builtin.cap_, ht0, run_underlying ht, goInt], .int _ _⟩
  · cases h; cases hx
    exact ⟨_, by simp [Builtin.cap_, ht0, run_underlying ht, goInt], .int _ _⟩
  · cases h

-- ---------------------------------------------------------------- append(s, make([]T, n)...)
theorem run_append_zeros_fresh {ts tx ty e : TypeId} {i : TypeInfo} {zv : Value} {k k' : IntKind} {base : Option Addr} {sLen sCap n : Nat} {old : Array Value}
    (hts : P.underlying ts = some (.slice e)) (htx : P.underlying tx = some (.int k)) (hi : P.info? e = some i) (hiz : i.zero = some zv) (hpos : 0 < i.size)
    (hold : (Builtin.firstCells i.size sLen (.slice base sLen sCap)).run P w.drew = .ok old w.drew)
    (hn0 : 0 < n) (hlt : sCap < sLen + n) (h63 : sLen + n ≤ 9223372036854775807) (hnb : n * i.bytes ≤ 281474976710656) (hcap : ¬ (Builtin.nextslicecap (sLen + n) sCap * i.bytes > 281474976710656)) :
    (Builtin.append_ #[ts, tx] ty #[.slice base sLen sCap, .int k' (n : Int)]).run P w =
      .ok (.slice (some ⟨w.heap.size, 0, none⟩) (sLen + n) (grownCap w (sLen + n) sCap e)) (w.drew.alloc (.cells (old ++ Builtin.zeroCells zv.cells n ++ Builtin.zeroCells zv.cells (grownCap w (sLen + n) sCap e - (sLen + n))) e)) := by
  have hnle : ¬ (sLen + n ≤ sCap) := by omega
  have h63' : ¬ (9223372036854775807 < ((sLen : Int) + (n : Int))) := by omega
  have hcap' : ¬ (281474976710656 < Builtin.nextslicecap (sLen + n) sCap * i.bytes) := by omega
  have wl : IntKind.i64.wrap (n : Int) = n := by rw [IntKind.wrap_i64]; omega
  have n3 : ¬ ((n : Int) < 0) := by omega
  have n4 : ¬ (281474976710656 < (n : Int) * (i.bytes : Int)) := by
    have : ((n * i.bytes : Nat) : Int) ≤ 281474976710656 := by omega
    rw [Int.natCast_mul] at this; omega
  have h0 : ¬ (n * i.size = 0) := by
    intro h
    rcases Nat.mul_eq_zero.1 h with h1 | h1 <;> omega
  simp [Builtin.append_, run_underlying hts, run_underlying htx, sizeOf, typeInfo, zeroValue, hi, hiz, hnle, h63', hcap', Question.forced, hold, newRow, grownCap, asInt, asIntOf, wl, n3, n4, h0]
theorem run_append_zeros_fits {ts tx ty e : TypeId} {i : TypeInfo} {zv : Value} {k k' : IntKind} {b off sLen sCap n : Nat} {w' : World}
    (hts : P.underlying ts = some (.slice e)) (htx : P.underlying tx = some (.int k)) (hi : P.info? e = some i) (hiz : i.zero = some zv) (hzs : zv.cells.size = i.size) (h63 : n ≤ 9223372036854775807) (hnb : n * i.bytes ≤ 281474976710656)
    (hst : (storeCells ⟨b, off + sLen * i.size, none⟩ (Builtin.zeroCells zv.cells n).toList).run P w = .ok () w') (hle : sLen + n ≤ sCap) :
    (Builtin.append_ #[ts, tx] ty #[.slice (some ⟨b, off, none⟩) sLen sCap, .int k' (n : Int)]).run P w = .ok (.slice (some ⟨b, off, none⟩) (sLen + n) sCap) w' := by
  have wl : IntKind.i64.wrap (n : Int) = n := by rw [IntKind.wrap_i64]; omega
  have n3 : ¬ ((n : Int) < 0) := by omega
  have n4 : ¬ (281474976710656 < (n : Int) * (i.bytes : Int)) := by
    have : ((n * i.bytes : Nat) : Int) ≤ 281474976710656 := by omega
    rw [Int.natCast_mul] at this; omega
  by_cases h0 : n * i.size = 0
  · have hze : Builtin.zeroCells zv.cells n = #[] := by apply Array.eq_empty_of_size_eq_zero; rw [size_zeroCells, hzs]; exact h0
    rw [hze] at hst
    simp [Builtin.append_, run_underlying hts, run_underlying htx, sizeOf, typeInfo, zeroValue, hi, hiz, asInt, asIntOf, wl, n3, n4, h0, hle, Addr.add_lit, hst]
  · simp [Builtin.append_, run_underlying hts, run_underlying htx, sizeOf, typeInfo, zeroValue, hi, hiz, asInt, asIntOf, wl, n3, n4, h0, hle, Addr.add_lit, hst]
theorem run_append_zeros_nil {ts tx ty e : TypeId} {i : TypeInfo} {zv : Value} {k k' : IntKind}
    (hts : P.underlying ts = some (.slice e)) (htx : P.underlying tx = some (.int k)) (hi : P.info? e = some i) (hiz : i.zero = some zv) :
    (Builtin.append_ #[ts, tx] ty #[.slice none 0 0, .int k' 0]).run P w = .ok (.slice none 0 0) w := by
  have wl : IntKind.i64.wrap 0 = 0 := by rw [IntKind.wrap_i64]; omega
  simp [Builtin.append_, run_underlying hts, run_underlying htx, sizeOf, typeInfo, zeroValue, hi, hiz, asInt, asIntOf, wl]

/-- so many zeros -/
def zfl (by_ : Nat) (z : List AV) (x : AV) : Option (Nat × List AV) :=
  match x with
  | .int _ n => if 0 ≤ n ∧ n.toNat * by_ ≤ 281474976710656 ∧ n ≤ 9223372036854775807 then some (n.toNat, rep n.toNat z) else none
  | _ => none
set_option maxHeartbeats 1000000 in
theorem appz_sound (hr : HRel w0 G H w) {ts tx ty e : TypeId} {ki : IntKind} {s x z : AV} {vs vx : Value} (hts : P.underlying ts = some (.slice e)) (htx : P.underlying tx = some (.int ki))
    (hel : elemOk P e = true) (hz : azero P e = some z) {K : AV → AH → Prop} (h : appo (P.cellsOf e) (P.bytesOf e) s (zfl (P.bytesOf e) z.cells x) H K) (hs : VRel G s vs) (hx : VRel G x vx) :
    ∃ v w', (Builtin.append_ #[ts, tx] ty #[vs, vx]).run P w = .ok v w' ∧ Post w0 G H K v w' := by
  obtain ⟨hpos, i, zv, hi, hiz, hzs, hsz, hby⟩ := elemOk_spec hel
  obtain ⟨zv', hzr, hzc, hzs', hzl⟩ := zero_cells (G := G) hz hel
  have hzz : zv' = zv := by
    have e1 : (zeroValue e).run P w = .ok zv w := by simp [zeroValue, typeInfo, hi, hiz]
    rw [hzr w] at e1; cases e1; rfl
  subst hzz
  unfold appo at h
  split at h
  · exact h.elim
  rename_i k fx hsrc
  unfold zfl at hsrc
  split at hsrc
  case h_2 => cases hsrc
  rename_i kk nn
  split at hsrc
  case isFalse => cases hsrc
  rename_i hcond
  obtain ⟨h0, hnb, h63n⟩ := hcond
  cases hsrc
  obtain ⟨k, rfl⟩ := Int.eq_ofNat_of_zero_le h0
  simp only [Int.toNat_natCast] at h hnb
  cases hx
  have hrr := rep_rel (G := G) (n := k) (arr := Builtin.zeroCells zv'.cells k) hzc rfl
  have hfl : (rep k z.cells).length = k * P.cellsOf e := by simp [hzl]
  have hcap : ∀ (need cap : Nat), cap < need → (2 * need + 1024) * P.bytesOf e ≤ 281474976710656 → ¬ (Builtin.nextslicecap need cap * i.bytes > 281474976710656) := by
    intro need cap hlt hb
    have h1 := nextslicecap_le hlt
    have h2 : Builtin.nextslicecap need cap * i.bytes ≤ (2 * need + 1024) * i.bytes := Nat.mul_le_mul_right _ h1
    rw [hby] at h2 ⊢
    omega
  split at h
  · cases hs
    split at h
    · rename_i hk; subst hk
      exact ⟨_, _, run_append_zeros_nil hts htx hi hiz, Post.same hr .nils h⟩
    · rename_i hk
      obtain ⟨hb, h63, h⟩ := h
      refine ⟨_, _, run_append_zeros_fresh (old := #[]) hts htx hi hiz (by omega) (by simp [Builtin.firstCells]) (by omega) (by omega) (by omega) (by rw [hby]; exact hnb) (hcap _ _ (by omega) (by simpa using hb)), ?_⟩
      have hge := grownCap_ge' w (0 + k) 0 e
      have := newOwn_sound (w := w.drew) hr.drew (cs := rep k z.cells ++ List.replicate ((grownCap w (0 + k) 0 e - k) * P.cellsOf e) .undef) (arr := #[] ++ Builtin.zeroCells zv'.cells k ++ Builtin.zeroCells zv'.cells (grownCap w (0 + k) 0 e - (0 + k))) (n := 0 + k) (cap := grownCap w (0 + k) 0 e)
        (by have := cells_grown (ox := []) (old := #[]) (m := grownCap w (0 + k) 0 e - (0 + k)) (z := zv'.cells) ⟨rfl, fun i a v ha => by simp at ha⟩ hrr
            rw [hzs] at this; simpa using this) hge e (K := K) (by have := h (grownCap w (0 + k) 0 e) (by omega); simpa using this)
      simpa using this
  · rename_i o off n cap
    split at h
    case h_2 => exact h.elim
    rename_i cs ho
    split at h
    case isFalse => exact h.elim
    rename_i hle
    cases hs with
    | osl off n cap hm hc =>
      rename_i b
      split at h
      · rename_i hfit
        obtain ⟨hle2, hone, h⟩ := h
        obtain ⟨w', h1, h2⟩ := stores_sound (P := P) (rep k z.cells) (Builtin.zeroCells zv'.cells k).toList cs H w (off + n * P.cellsOf e) 0 hr ho hm hrr hone (by rw [hfl]; rw [Nat.add_mul] at hle2; omega)
        refine ⟨_, _, run_append_zeros_fits (off := off) (w' := w') hts htx hi hiz (by rw [hzs, hsz]) (by omega) (by rw [hby]; exact hnb) (by rw [hsz]; exact h1) hfit, ?_⟩
        exact ⟨G, H.put o (.cells (sets cs (off + n * P.cellsOf e) (rep k z.cells))), _, .refl _ _, Nat.le_refl _, by simpa using h2, .osl off (n + k) cap hm hfit, h⟩
      · rename_i hfit
        obtain ⟨hb, h63, h⟩ := h
        obtain ⟨old, ho1, ho2⟩ := own_cells (P := P) hr.drew ho hm (off := off) (m := n * P.cellsOf e) hle
        refine ⟨_, _, run_append_zeros_fresh (old := old) hts htx hi hiz (by omega) (by rw [hsz]; simpa [Builtin.firstCells] using ho1) (by omega) (by omega) (by omega) (by rw [hby]; exact hnb) (hcap _ _ (by omega) hb), ?_⟩
        have hge := grownCap_ge' w (n + k) cap e
        have := newOwn_sound (w := w.drew) hr.drew (cs := (cs.drop off).take (n * P.cellsOf e) ++ rep k z.cells ++ List.replicate ((grownCap w (n + k) cap e - (n + k)) * P.cellsOf e) .undef) (arr := old ++ Builtin.zeroCells zv'.cells k ++ Builtin.zeroCells zv'.cells (grownCap w (n + k) cap e - (n + k))) (n := n + k) (cap := grownCap w (n + k) cap e)
          (by have := cells_grown (m := grownCap w (n + k) cap e - (n + k)) (z := zv'.cells) ho2 hrr
              rw [hzs] at this; exact this) hge e (K := K) (h (grownCap w (n + k) cap e) hge)
        simpa using this
  · exact h.elim
end
end Go.Va
