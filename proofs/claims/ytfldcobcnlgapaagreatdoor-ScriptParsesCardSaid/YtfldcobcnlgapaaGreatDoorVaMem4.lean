/-
  Appends: the right to append at a slice's end is a token, used up by the append, which hands out a new one.
-/
import Derived.Test.YtfldcobcnlgapaaGreatDoorVaMem3
set_option linter.unusedVariables false
set_option linter.unusedSimpArgs false
set_option linter.unnecessarySimpa false
namespace Go.Va
open Go.RowKit (Below)

theorem growBy_le (n : Nat) : ∀ (r c : Nat), Builtin.growBy n r c ≤ max c (n + (n + 768) / 4)
  | 0, c => by simp [Builtin.growBy]; omega
  | r + 1, c => by
    unfold Builtin.growBy
    split
    · omega
    · have := growBy_le n r (c + (c + 768) / 4)
      omega
theorem nextslicecap_le {need old : Nat} (h : old < need) : Builtin.nextslicecap need old ≤ 2 * need + 1024 := by
  unfold Builtin.nextslicecap
  split
  · omega
  · split
    · omega
    · have := growBy_le need 4 old; omega

/-- what an append may take its elements from -/
def asrc (sz : Nat) : AV → Option (List AV)
  | .sl _ sz' es => if sz' = sz then some es else none
  | .nils => some []
  | .str s => if sz = 1 then some (s.map fun b => .int .u8 b.toNat) else none
  | _ => none

section
variable {P : Program} {w0 w : World} {G : Gh} {H : AH}

/-- cells, element by element -/
def flat (es : List AV) : List AV := es.flatMap AV.cells
theorem flat_append (a b : List AV) : flat (a ++ b) = flat a ++ flat b := by simp [flat]
theorem length_flat {sz : Nat} : ∀ (es : List AV), (∀ (i : Nat) (e : AV), es[i]? = some e → e.cells.length = sz) → (flat es).length = es.length * sz
  | [], _ => by simp [flat]
  | e :: es, h => by
    have h0 := h 0 e rfl
    have ih := length_flat es (fun i x hx => h (i + 1) x (by simpa using hx))
    simp only [flat, List.flatMap_cons, List.length_append, List.length_cons] at *
    rw [ih, h0, Nat.add_mul]; omega
theorem flat_at {sz : Nat} : ∀ (es : List AV), (∀ (i : Nat) (e : AV), es[i]? = some e → e.cells.length = sz) → ∀ (i : Nat) (e : AV) (j : Nat) (a : AV), es[i]? = some e → e.cells[j]? = some a → (flat es)[i * sz + j]? = some a
  | [], _, i, e, j, a, hi, _ => by simp at hi
  | x :: es, h, i, e, j, a, hi, hj => by
    have h0 := h 0 x rfl
    simp only [flat, List.flatMap_cons]
    cases i with
    | zero =>
      simp at hi; subst hi
      have hlt := (List.getElem?_eq_some_iff.1 hj).1
      rw [List.getElem?_append_left (by omega)]
      simpa using hj
    | succ i =>
      have ih := flat_at es (fun k y hy => h (k + 1) y (by simpa using hy)) i e j a (by simpa using hi) hj
      rw [List.getElem?_append_right (by rw [h0, Nat.add_mul]; omega), h0]
      have : (i + 1) * sz + j - sz = i * sz + j := by rw [Nat.add_mul]; omega
      rw [this]; exact ih
theorem of_flat {sz : Nat} (hpos : 0 < sz) : ∀ (es : List AV), (∀ (i : Nat) (e : AV), es[i]? = some e → e.cells.length = sz) → ∀ (p : Nat) (a : AV), (flat es)[p]? = some a →
    ∃ e, es[p / sz]? = some e ∧ e.cells[p % sz]? = some a
  | [], _, p, a, h => by simp [flat] at h
  | x :: es, h, p, a, ha => by
    have h0 := h 0 x rfl
    simp only [flat, List.flatMap_cons] at ha
    by_cases hp : p < sz
    · rw [List.getElem?_append_left (by omega)] at ha
      exact ⟨x, by rw [Nat.div_eq_of_lt hp]; rfl, by rw [Nat.mod_eq_of_lt hp]; exact ha⟩
    · rw [List.getElem?_append_right (by omega), h0] at ha
      obtain ⟨e, h1, h2⟩ := of_flat hpos es (fun k y hy => h (k + 1) y (by simpa using hy)) (p - sz) a ha
      refine ⟨e, ?_, ?_⟩
      · rw [show p / sz = (p - sz) / sz + 1 by rw [← Nat.add_div_right _ hpos]; congr 1; omega]
        simpa using h1
      · rw [show p % sz = (p - sz) % sz by rw [← Nat.add_mod_right (p - sz) sz]; congr 1; omega]
        exact h2

/-- The cells that a slice holds, read one by one. -/
theorem sl_cells (hr : HRel w0 G H w) {sz : Nat} {es : List AV} {b off : Nat} {vals : Nat → Nat → Value} (hpos : 0 < sz)
    (hs : ∀ (i : Nat) (e : AV), es[i]? = some e → e.cells.length = sz)
    (h : ∀ (i : Nat) (e : AV) (j : Nat) (c : AV), es[i]? = some e → e.cells[j]? = some c → G.im b (off + i * sz + j) = some (vals i j))
    (hv : ∀ (i : Nat) (e : AV) (j : Nat) (c : AV), es[i]? = some e → e.cells[j]? = some c → VRel G c (vals i j)) :
    ∃ arr : Array Value, (loadCells ⟨b, off, none⟩ (es.length * sz)).run P w = .ok arr w ∧ CRel G (flat es) arr.toList := by
  have hlen := length_flat es hs
  let f : Nat → Value := fun j => (w.cell? ⟨b, off + j, none⟩).getD undef
  have hcell : ∀ j, j < es.length * sz → ∃ a, (flat es)[j]? = some a ∧ ∃ v, w.cell? ⟨b, off + j, none⟩ = some v ∧ VRel G a v := by
    intro j hj
    have ha : (flat es)[j]? = some ((flat es)[j]'(by omega)) := List.getElem?_eq_getElem _
    obtain ⟨e, h1, h2⟩ := of_flat hpos es hs j _ ha
    refine ⟨_, ha, vals (j / sz) (j % sz), ?_, hv _ e _ _ h1 h2⟩
    have := hr.im _ _ _ (h _ e _ _ h1 h2)
    rw [← this]; congr 2
    have := Nat.div_add_mod' j sz
    omega
  have hrun := run_loadCells (P := P) w ⟨b, off, none⟩ (es.length * sz) f (fun j hj => by
    obtain ⟨a, _, v, hv, _⟩ := hcell j hj
    rw [Addr.add_lit]
    simp [f, hv])
  refine ⟨_, hrun, by simp [hlen], fun i a v ha hv' => ?_⟩
  have hi : i < es.length * sz := by have := (List.getElem?_eq_some_iff.1 ha).1; omega
  obtain ⟨a', ha', u, hu, hau⟩ := hcell i hi
  rw [ha] at ha'; cases ha'
  simp [hi, f, hu] at hv'
  subst hv'
  exact hau

theorem asrc_sound (hr : HRel w0 G H w) {sz : Nat} {x : AV} {vx : Value} {xs : List AV} (h : asrc sz x = some xs) (hpos : 0 < sz) (hx : VRel G x vx) :
    ∃ arr : Array Value, (Builtin.lenOf vx).run P w = .ok xs.length w ∧ (Builtin.firstCells sz xs.length vx).run P w = .ok arr w ∧ CRel G (flat xs) arr.toList ∧ (∀ (i : Nat) (e : AV), xs[i]? = some e → e.cells.length = sz) := by
  cases hx <;> simp only [asrc, reduceCtorEq] at h
  · rename_i s
    split at h
    · rename_i h1
      cases h
      refine ⟨(s.toArray.map fun b => Value.int .u8 b.toNat), ?_, ?_, ?_, ?_⟩
      · simp [Builtin.lenOf, ByteArray.size]
      · simp only [Builtin.firstCells, List.length_map, Sem.run_pure, Result.ok.injEq, and_true]
        congr 1
        simp [ByteArray.data_extract]
      · have hf : flat (s.map fun b => AV.int .u8 b.toNat) = s.map fun b => AV.int .u8 b.toNat := by
          clear hr h1
          induction s with
          | nil => rfl
          | cons b s ih => simp only [flat, List.map_cons, List.flatMap_cons] at ih ⊢; rw [ih]; rfl
        rw [hf]
        refine ⟨by simp, fun i a v ha hv => ?_⟩
        simp only [List.getElem?_map, Option.map_eq_some_iff, Array.toList_map] at ha hv
        obtain ⟨b, hb, rfl⟩ := ha
        obtain ⟨b', hb', rfl⟩ := hv
        rw [hb] at hb'; cases hb'
        exact .int _ _
      · intro i e he
        simp only [List.getElem?_map, Option.map_eq_some_iff] at he
        obtain ⟨b, _, rfl⟩ := he
        simp [AV.cells, h1]
    · cases h
  · cases h
    exact ⟨#[], by simp [Builtin.lenOf], by simp [Builtin.firstCells], ⟨rfl, fun i a v ha => by simp [flat] at ha⟩, fun i e he => by simp at he⟩
  · split at h
    · rename_i hsz
      cases h
      subst hsz
      rename_i g es b off cap vals hc hg hs h1 h2
      obtain ⟨arr, h3, h4⟩ := sl_cells (P := P) hr hpos hs h1 h2
      exact ⟨arr, by simp [Builtin.lenOf], by simpa [Builtin.firstCells] using h3, h4, hs⟩
    · cases h

/-- Cells behind a slice's end are written: the token goes, the cells are held for good. -/
theorem HRel.fillRoom (hr : HRel w0 G H w) {c l b k s : Nat} (ht : H.tok c = some l) (hce : G.ce c = some (b, k, s)) (vs : List Value) (hle : k + vs.length ≤ s) :
    HRel w0 (G.addIm fun b' i => if b' = b ∧ k ≤ i ∧ i < k + vs.length then vs[i - k]? else none) (H.untok c) (w.setCells b k vs) := by
  obtain ⟨hbase, hroom, hno⟩ := hr.tok c l b k s ht hce
  have hblt := hr.tblk c b k s hce
  have hle' : Gh.Le 0 G (G.addIm fun b' i => if b' = b ∧ k ≤ i ∧ i < k + vs.length then vs[i - k]? else none) := Gh.le_addIm _
  have hout : ∀ (b' i : Nat), (b' = b → i < k ∨ k + vs.length ≤ i) → (w.setCells b k vs).cell? ⟨b', i, none⟩ = w.cell? ⟨b', i, none⟩ := fun b' i h =>
    World.cell?_setCells_out b vs k w ⟨b', i, none⟩ (fun e _ => h e)
  have hin : ∀ (j : Nat) (hj : j < vs.length), (w.setCells b k vs).cell? ⟨b, k + j, none⟩ = some vs[j] := fun j hj =>
    World.cell?_setCells_in b vs k w (fun j' hj' => by obtain ⟨v, hv⟩ := (hroom (k + j') (by omega) (by omega)).1; simp [hv]) j hj
  have hfz : ∀ (x : Addr), (w.setCells b k vs).frozen? x = w.frozen? x := fun x => World.frozen?_setCells b vs k w x
  have hblk : ∀ (vs : List Value) (k : Nat) (w : World) (b' : Nat), b' ≠ b → (w.setCells b k vs).heap[b']? = w.heap[b']? := by
    intro vs
    induction vs with
    | nil => intro k w b' _; rfl
    | cons v vs ih => intro k w b' hb'; rw [World.setCells, ih _ _ b' hb', below_setCell b' hb']
  have hsize : ∀ (vs : List Value) (k : Nat) (w : World), (w.setCells b k vs).heap.size = w.heap.size := by
    intro vs
    induction vs with
    | nil => intro k w; rfl
    | cons v vs ih => intro k w; rw [World.setCells, ih]; simp
  have hbelow : ∀ (vs : List Value) (k : Nat) (w : World), Below w0.heap.size w0 w → Below w0.heap.size w0 (w.setCells b k vs) := by
    intro vs
    induction vs with
    | nil => intro k w h; exact h
    | cons v vs ih => intro k w h; exact ih _ _ (h.setCell (p := ⟨b, k, none⟩) hbase v)
  have htok : ∀ c' l', (H.untok c).tok c' = some l' → c' ≠ c ∧ H.tok c' = some l' := by
    intro c' l' h'
    simp only [AH.untok] at h'
    split at h'
    · cases h'
    · exact ⟨by assumption, h'⟩
  refine ⟨hbelow vs k w hr.below, ?_, hr.inj, ?_, hr.hdom, ?_, ?_, ?_, ?_, hr.tdom, ?_, ?_⟩
  · intro o x b' ho hm
    obtain ⟨h1, h2⟩ := hr.obj o x b' ho hm
    exact ⟨h1, (h2.mono hle').of_block (hblk vs k w b' fun e => hno o x ho (e ▸ hm))⟩
  · intro o b' hm; have := hr.dom o b' hm; exact ⟨this.1, by rw [hsize]; exact this.2⟩
  · intro b' i v hv
    simp only [Gh.addIm] at hv
    cases hi : G.im b' i with
    | some u =>
      rw [hi] at hv; simp at hv; subst hv
      rw [hout b' i (fun e => by
        subst e
        rcases Nat.lt_or_ge i k with h' | h'
        · exact .inl h'
        · rcases Nat.lt_or_ge i (k + vs.length) with h'' | h''
          · have := (hroom i h' (by omega)).2.2; rw [hi] at this; cases this
          · exact .inr h'')]
      exact hr.im b' i u hi
    | none =>
      rw [hi] at hv
      simp only [Option.none_or] at hv
      split at hv
      · rename_i e
        obtain ⟨rfl, h1, h2⟩ := e
        have hj := hin (i - k) (by omega)
        rw [show k + (i - k) = i by omega] at hj
        rw [hj, ← hv, List.getElem?_eq_getElem (by omega)]
      · cases hv
  · intro o x b' i ho hm
    simp only [Gh.addIm, hr.imo o x b' i ho hm, Option.none_or]
    rw [if_neg (by rintro ⟨e, _⟩; exact hno o x ho (e ▸ hm))]
  · intro c' l' b' k' s' h' hc'
    obtain ⟨hne, h'⟩ := htok c' l' h'
    obtain ⟨h1, h3, h4⟩ := hr.tok c' l' b' k' s' h' hc'
    have hb' : b' ≠ b := fun e => hne (hr.tinj c' c l' l b' k' s' k s h' ht hc' (e ▸ hce))
    refine ⟨h1, fun i hk hs => ?_, h4⟩
    obtain ⟨a1, a2, a3⟩ := h3 i hk hs
    refine ⟨by rw [hout b' i (fun e => absurd e hb')]; exact a1, by rw [hfz]; exact a2, ?_⟩
    simp only [Gh.addIm, a3, Option.none_or]
    rw [if_neg (by rintro ⟨e, _⟩; exact hb' e)]
  · intro c1 c2 l1 l2 b' k1 s1 k2 s2 h1 h2 hc1 hc2
    exact hr.tinj c1 c2 l1 l2 b' k1 s1 k2 s2 (htok c1 l1 h1).2 (htok c2 l2 h2).2 hc1 hc2
  · intro c' b' k' s' hc'; rw [hsize]; exact hr.tblk c' b' k' s' hc'
  · intro c' l' h'; exact hr.htok c' l' (htok c' l' h').2

/-- What an append yields, and the view behind it. 'sz', 'by_': an element's cells and bytes. -/
def appd (sz by_ : Nat) (s x : AV) (H : AH) : Option (AV × AH) :=
  match asrc sz x with
  | none => none
  | some xs =>
    match s with
    | .nils => if xs = [] then some (.nils, H) else
        if (2 * xs.length + 1024) * by_ ≤ 281474976710656 ∧ xs.length ≤ 9223372036854775807 then some (.sl (.tail H.next) sz xs, H.newtok 0) else none
    | .sl .full sz' es =>
      if sz' = sz ∧ (2 * (es.length + xs.length) + 1024) * by_ ≤ 281474976710656 ∧ es.length + xs.length ≤ 9223372036854775807 then some (.sl (.tail H.next) sz (es ++ xs), H.newtok 0) else none
    | .sl (.tail c) sz' es =>
      match H.tok c with
      | some l => if sz' = sz ∧ (2 * (es.length + xs.length) + 1024) * by_ ≤ 281474976710656 ∧ es.length + xs.length ≤ 9223372036854775807 ∧ (flat xs).all AV.one = true then some (.sl (.tail H.next) sz (es ++ xs), H.retok c l) else none
      | none => none
    | _ => none

/-- The row that an append makes anew. -/
theorem append_new (hr : HRel w0 G H w) {e : TypeId} {i : TypeInfo} {z : Value} {sz : Nat} (hpos : 0 < sz) (hi : P.info? e = some i) (hsz : i.size = sz) (hz : i.zero = some z) (hzs : z.cells.size = sz)
    {es xs : List AV} (hes : ∀ (i : Nat) (e : AV), es[i]? = some e → e.cells.length = sz) (hxs : ∀ (i : Nat) (e : AV), xs[i]? = some e → e.cells.length = sz)
    {old new : Array Value} (ho : CRel G (flat es) old.toList) (hn : CRel G (flat xs) new.toList) {cap : Nat} (hcap : es.length + xs.length ≤ cap) {H' : AH} (hH : H'.next = H.next + 1) (hr' : HRel w0 G H' w) {l : Nat} (ht : H'.tok H.next = some l) :
    ∃ G', Gh.Le H.next G G' ∧ HRel w0 G' H' (w.alloc (.cells (old ++ new ++ Builtin.zeroCells z.cells (cap - (es.length + xs.length))) e)) ∧
      VRel G' (.sl (.tail H.next) sz (es ++ xs)) (.slice (some ⟨w.heap.size, 0, none⟩) (es.length + xs.length) cap) := by
  have hall : ∀ (i : Nat) (e : AV), (es ++ xs)[i]? = some e → e.cells.length = sz := by
    intro i a ha
    rw [List.getElem?_append] at ha
    split at ha
    · exact hes _ a ha
    · exact hxs _ a ha
  have hlen := length_flat (es ++ xs) hall
  have hle := length_flat es hes
  have hlx := length_flat xs hxs
  have h1 := ho.len
  have h2 := hn.len
  simp only [Array.length_toList] at h1 h2
  let c := old ++ new ++ Builtin.zeroCells z.cells (cap - (es.length + xs.length))
  have hcsize : c.size = cap * sz := by
    simp only [c, Array.size_append, size_zeroCells, hzs, ← h1, ← h2, hle, hlx, ← Nat.add_mul]
    congr 1; omega
  have hcell : ∀ (i : Nat) (a : AV), (flat (es ++ xs))[i]? = some a → ∃ v, c[i]? = some v ∧ VRel G a v := by
    intro i a ha
    have hlt := (List.getElem?_eq_some_iff.1 ha).1
    rw [hlen, List.length_append, Nat.add_mul] at hlt
    rw [flat_append, List.getElem?_append] at ha
    simp only [c]
    rw [Array.getElem?_append_left (by simp; omega)]
    split at ha
    · rename_i hi'
      have hv : old[i]? = some (old[i]'(by omega)) := Array.getElem?_eq_getElem _
      rw [Array.getElem?_append_left (by omega)]
      exact ⟨_, hv, ho.at_ i a _ ha (by simpa using hv)⟩
    · rename_i hi'
      have hv : new[i - old.size]? = some (new[i - old.size]'(by omega)) := Array.getElem?_eq_getElem _
      rw [Array.getElem?_append_right (by omega)]
      refine ⟨_, hv, hn.at_ (i - (flat es).length) a _ ha ?_⟩
      rw [h1]; simpa using hv
  obtain ⟨G1, g1, g2, g3, g4, g5, g6⟩ := newSl_sound (w := w) hr' (c := c) (t := e) (sz := sz) (es := es ++ xs) (cap := cap) hall
    (fun i a j b ha hb => hcell _ b (flat_at _ hall i a j b ha hb)) (by simpa using hcap)
  have hce : G.ce H.next = none := hr.ce_lt (Nat.le_refl _)
  have hce1 : G1.ce H.next = none := by rw [g3]; exact hce
  have hle1 : Gh.Le H.next G1 (G1.setCe H.next (w.heap.size, (es ++ xs).length * sz, cap * sz)) := Gh.le_setCe (Nat.le_refl _) hce1
  refine ⟨G1.setCe H.next (w.heap.size, (es ++ xs).length * sz, cap * sz), ?_, ?_, ?_⟩
  · exact (g1.anti (by omega)).trans hle1 (Nat.le_refl _)
  · refine g2.placeTok ht hce1 hr.below.size (by simp) ?_ ?_ ?_
    · intro i hk hs
      refine ⟨⟨c[i]'(by omega), by rw [World.cell?_alloc_new]; exact Array.getElem?_eq_getElem _⟩, by simp, g5 i hk⟩
    · intro o x hx hm
      have := (hr'.dom o _ (g4 ▸ hm)).2; omega
    · intro c' l' k' s' _ hc'
      have := hr'.tblk c' _ k' s' (g3 ▸ hc'); omega
  · have := g6 (.stuck) trivial
    have hv := (this.mono hle1)
    cases hv with
    | sl vals hc' hg' hs' h3 h4 =>
      have e : es.length + xs.length = (es ++ xs).length := by simp
      rw [e]
      refine .sl vals hc' ?_ hs' h3 h4
      intro _
      simp [Gh.setCe]

/-- The run of an append that makes a new row. -/
theorem run_append_fresh {ts tx ty e : TypeId} {i : TypeInfo} {zv : Value} {ux : TypeDesc} {base : Option Addr} {sLen sCap n : Nat} {vx : Value} {old new : Array Value}
    (hts : P.underlying ts = some (.slice e)) (htx : P.underlying tx = some ux) (hnot : (∃ e', ux = .slice e') ∨ ux = .string) (hi : P.info? e = some i) (hiz : i.zero = some zv)
    (hl : (Builtin.lenOf vx).run P w = .ok n w) (hold : (Builtin.firstCells i.size sLen (.slice base sLen sCap)).run P w.drew = .ok old w.drew) (hnew : (Builtin.firstCells i.size n vx).run P w.drew = .ok new w.drew)
    (hlt : sCap < sLen + n) (h63 : sLen + n ≤ 9223372036854775807) (hcap : ¬ (Builtin.nextslicecap (sLen + n) sCap * i.bytes > 281474976710656)) :
    (Builtin.append_ #[ts, tx] ty #[.slice base sLen sCap, vx]).run P w =
      .ok (.slice (some ⟨w.heap.size, 0, none⟩) (sLen + n) (grownCap w (sLen + n) sCap e)) (w.drew.alloc (.cells (old ++ new ++ Builtin.zeroCells zv.cells (grownCap w (sLen + n) sCap e - (sLen + n))) e)) := by
  have hnle : ¬ (sLen + n ≤ sCap) := by omega
  have h63' : ¬ (9223372036854775807 < ((sLen : Int) + (n : Int))) := by omega
  have hcap' : ¬ (281474976710656 < Builtin.nextslicecap (sLen + n) sCap * i.bytes) := by omega
  rcases hnot with ⟨e', rfl⟩ | rfl
  · simp [Builtin.append_, run_underlying hts, run_underlying htx, sizeOf, typeInfo, zeroValue, hi, hiz, hl, hnle, h63', hcap', Question.forced, hold, hnew, newRow, grownCap]
  · simp [Builtin.append_, run_underlying hts, run_underlying htx, sizeOf, typeInfo, zeroValue, hi, hiz, hl, hnle, h63', hcap', Question.forced, hold, hnew, newRow, grownCap]

/-- The run of an append for which there is room. -/
theorem run_append_fits {ts tx ty e : TypeId} {i : TypeInfo} {ux : TypeDesc} {b off sLen sCap n : Nat} {vx : Value} {new : Array Value} {w' : World}
    (hts : P.underlying ts = some (.slice e)) (htx : P.underlying tx = some ux) (hnot : (∃ e', ux = .slice e') ∨ ux = .string) (hi : P.info? e = some i)
    (hl : (Builtin.lenOf vx).run P w = .ok n w) (hnew : (Builtin.firstCells i.size n vx).run P w = .ok new w)
    (hst : (storeCells ⟨b, off + sLen * i.size, none⟩ new.toList).run P w = .ok () w') (hle : sLen + n ≤ sCap) :
    (Builtin.append_ #[ts, tx] ty #[.slice (some ⟨b, off, none⟩) sLen sCap, vx]).run P w = .ok (.slice (some ⟨b, off, none⟩) (sLen + n) sCap) w' := by
  rcases hnot with ⟨e', rfl⟩ | rfl
  · simp [Builtin.append_, run_underlying hts, run_underlying htx, sizeOf, typeInfo, hi, hl, hle, hnew, Addr.add_lit, hst]
  · simp [Builtin.append_, run_underlying hts, run_underlying htx, sizeOf, typeInfo, hi, hl, hle, hnew, Addr.add_lit, hst]
theorem run_append_nilnil {ts tx ty e : TypeId} {i : TypeInfo} {ux : TypeDesc} {vx : Value} {new : Array Value}
    (hts : P.underlying ts = some (.slice e)) (htx : P.underlying tx = some ux) (hnot : (∃ e', ux = .slice e') ∨ ux = .string) (hi : P.info? e = some i)
    (hl : (Builtin.lenOf vx).run P w = .ok 0 w) (hnew : (Builtin.firstCells i.size 0 vx).run P w = .ok new w) :
    (Builtin.append_ #[ts, tx] ty #[.slice none 0 0, vx]).run P w = .ok (.slice none 0 0) w := by
  rcases hnot with ⟨e', rfl⟩ | rfl
  · simp [Builtin.append_, run_underlying hts, run_underlying htx, sizeOf, typeInfo, hi, hl, hnew]
  · simp [Builtin.append_, run_underlying hts, run_underlying htx, sizeOf, typeInfo, hi, hl, hnew]

theorem grownCap_ge' (w : World) (need old : Nat) (e : TypeId) : need ≤ grownCap w need old e := grownCap_ge w need old e

/-- what the element type's table is to say -/
def elemOk (P : Program) (e : TypeId) : Bool := ((azero P e).any fun z => z.cells.length == P.cellsOf e && z.known) && decide (0 < P.cellsOf e)
theorem elemOk_spec {e : TypeId} (h : elemOk P e = true) : 0 < P.cellsOf e ∧ ∃ i zv, P.info? e = some i ∧ i.zero = some zv ∧ zv.cells.size = P.cellsOf e ∧ i.size = P.cellsOf e ∧ i.bytes = P.bytesOf e := by
  simp only [elemOk, Bool.and_eq_true, decide_eq_true_eq] at h
  obtain ⟨hzero, hpos⟩ := h
  obtain ⟨z, hz1, hz2⟩ : ∃ z, azero P e = some z ∧ (z.cells.length == P.cellsOf e && z.known) = true := by
    cases ha : azero P e with
    | none => rw [ha] at hzero; simp at hzero
    | some z => rw [ha] at hzero; exact ⟨z, rfl, by simpa using hzero⟩
  simp only [Bool.and_eq_true, beq_iff_eq] at hz2
  simp only [azero, Option.map_eq_some_iff, Option.bind_eq_some_iff] at hz1
  obtain ⟨v, ⟨i, a, b⟩, rfl⟩ := hz1
  refine ⟨hpos, i, v, a, b, ?_, by simp [Program.cellsOf, a], by simp [Program.bytesOf, a]⟩
  have := ((VRel.aconst ⟨fun _ => none, fun _ _ => none, fun _ => none⟩ v).cellsRel hz2.2).len
  rw [hz2.1] at this
  simpa using this.symm

set_option maxHeartbeats 1000000 in
theorem append_sound (hr : HRel w0 G H w) {ts tx ty e : TypeId} {ux : TypeDesc} {s x r : AV} {vs vx : Value} {H' : AH} (hts : P.underlying ts = some (.slice e)) (htx : P.underlying tx = some ux) (hnot : (∃ e', ux = .slice e') ∨ ux = .string)
    (hel : elemOk P e = true)
    (h : appd (P.cellsOf e) (P.bytesOf e) s x H = some (r, H')) (hs : VRel G s vs) (hx : VRel G x vx) {K : AV → AH → Prop} (k : K r H') :
    ∃ v w', (Builtin.append_ #[ts, tx] ty #[vs, vx]).run P w = .ok v w' ∧ Post w0 G H K v w' := by
  obtain ⟨hpos, i, zv, hi, hiz, hzs, hsz, hby⟩ := elemOk_spec hel
  unfold appd at h
  split at h
  · cases h
  rename_i xs hsrc
  obtain ⟨new, hl, hf, hcn, hxs⟩ := asrc_sound (P := P) hr hsrc hpos hx
  obtain ⟨new', hl', hf', hcn', _⟩ := asrc_sound (P := P) hr.drew hsrc hpos hx
  have hlenx := length_flat xs hxs
  have hcap : ∀ (need cap : Nat), cap < need → (2 * need + 1024) * P.bytesOf e ≤ 281474976710656 → ¬ (Builtin.nextslicecap need cap * i.bytes > 281474976710656) := by
    intro need cap hlt hb
    have h1 := nextslicecap_le hlt
    have h2 : Builtin.nextslicecap need cap * i.bytes ≤ (2 * need + 1024) * i.bytes := Nat.mul_le_mul_right _ h1
    rw [hby] at h2 ⊢
    omega
  split at h
  · -- onto nil
    cases hs
    split at h
    · rename_i hxe
      subst hxe
      cases h
      exact ⟨_, _, run_append_nilnil hts htx hnot hi hl (by rw [hsz]; exact hf), Post.same hr .nils k⟩
    · rename_i hxe
      split at h
      · rename_i hc
        cases h
        have hn0 : 0 < xs.length := List.length_pos_iff.2 hxe
        obtain ⟨G', g1, g2, g3⟩ := append_new (w := w.drew) hr.drew hpos hi hsz hiz hzs (es := []) (xs := xs) (old := #[]) (new := new') (fun i e hi => by simp at hi) hxs ⟨rfl, fun i a v ha => by simp [flat] at ha⟩ hcn'
          (cap := grownCap w (0 + xs.length) 0 e) (by simpa using grownCap_ge' w (0 + xs.length) 0 e) (H' := H.newtok 0) rfl (hr.drew.newtok 0) (l := 0) (by simp [AH.newtok])
        refine ⟨_, _, run_append_fresh (old := #[]) (new := new') hts htx hnot hi hiz hl (by simp [Builtin.firstCells]) (by rw [hsz]; exact hf') (by omega) (by omega) (hcap _ _ (by omega) (by simpa using hc.1)), ?_⟩
        refine ⟨G', H.newtok 0, _, g1, by simp [AH.newtok], ?_, ?_, k⟩
        · simpa using g2
        · simpa using g3
      · cases h
  · -- onto one without room
    rename_i sz' es
    split at h
    · rename_i hc
      obtain ⟨rfl, hb, h63⟩ := hc
      cases h
      cases hs with
      | sl vals hc' hg hes h1 h2 =>
        rename_i b off cap
        simp only [GrowOk] at hg
        subst hg
        obtain ⟨old, ho1, ho2⟩ := sl_cells (P := P) hr.drew hpos hes h1 h2
        by_cases hxe : xs = []
        · subst hxe
          have hnew : new = #[] := by have := hcn.len; simp [flat] at this; exact Array.eq_empty_of_size_eq_zero this.symm
          subst hnew
          refine ⟨_, _, run_append_fits (w' := w) hts htx hnot hi hl (by rw [hsz]; exact hf) rfl (by simp), ?_⟩
          refine ⟨G, H.newtok 0, _, .refl _ _, by simp [AH.newtok], hr.newtok 0, ?_, k⟩
          simp only [List.append_nil, List.length_nil, Nat.add_zero]
          exact .sl vals hc' (fun hlt => by omega) hes h1 h2
        · have hn0 : 0 < xs.length := List.length_pos_iff.2 hxe
          obtain ⟨G', g1, g2, g3⟩ := append_new (w := w.drew) hr.drew hpos hi hsz hiz hzs hes hxs ho2 hcn'
            (cap := grownCap w (es.length + xs.length) es.length e) (grownCap_ge' w _ _ e) (H' := H.newtok 0) rfl (hr.drew.newtok 0) (l := 0) (by simp [AH.newtok])
          refine ⟨_, _, run_append_fresh (old := old) (new := new') hts htx hnot hi hiz hl (by rw [hsz]; simpa [Builtin.firstCells] using ho1) (by rw [hsz]; exact hf') (by omega) (by omega) (hcap _ _ (by omega) hb), ?_⟩
          exact ⟨G', H.newtok 0, _, g1, by simp [AH.newtok], g2, g3, k⟩
    · cases h
  · -- onto one that a token lets grow
    rename_i c sz' es
    split at h
    · rename_i l htok
      split at h
      · rename_i hc
        obtain ⟨rfl, hb, h63, hone⟩ := hc
        cases h
        cases hs with
        | sl vals hc' hg hes h1 h2 =>
          rename_i b off cap
          simp only [GrowOk] at hg
          have hlene := length_flat es hes
          have hru := hr.untok c
          have hrt : HRel w0 G (H.retok c l) w := hru.newtok l
          by_cases hfit : es.length + xs.length ≤ cap
          · -- there is room
            by_cases hlt : es.length < cap
            · have hce := hg hlt
              have hvl : new.toList.length = xs.length * P.cellsOf e := by have := hcn.len; rw [hlenx] at this; exact this.symm
              have hkle : off + es.length * P.cellsOf e + new.toList.length ≤ off + cap * P.cellsOf e := by
                rw [hvl, Nat.add_assoc, ← Nat.add_mul]
                exact Nat.add_le_add_left (Nat.mul_le_mul_right _ hfit) _
              have hfill := hr.fillRoom htok hce new.toList hkle
              obtain ⟨hbase, hroom, hno⟩ := hr.tok c l b _ _ htok hce
              have hst : (storeCells ⟨b, off + es.length * P.cellsOf e, none⟩ new.toList).run P w = .ok () (w.setCells b (off + es.length * P.cellsOf e) new.toList) := by
                have := run_storeCells_cells (P := P) b (off + es.length * P.cellsOf e) new.toList 0 w
                  (fun j hj => by obtain ⟨⟨v, hv⟩, _⟩ := hroom (off + es.length * P.cellsOf e + 0 + j) (by omega) (by omega); simp only [Nat.add_zero] at hv ⊢; simp [hv])
                  (fun j hj => (hroom (off + es.length * P.cellsOf e + 0 + j) (by omega) (by omega)).2.1)
                  (fun v hv => by
                    obtain ⟨j, hj⟩ := List.getElem?_of_mem hv
                    have hjl := (List.getElem?_eq_some_iff.1 hj).1
                    have hfl : j < (flat xs).length := by have := hcn.len; omega
                    have hja : (flat xs)[j]? = some (flat xs)[j] := List.getElem?_eq_getElem hfl
                    exact (hcn.at_ j _ v hja hj).oneCell (List.all_eq_true.1 hone _ (List.getElem_mem hfl)))
                simpa using this
              refine ⟨_, _, run_append_fits (off := off) hts htx hnot hi hl (by rw [hsz]; exact hf) (by rw [hsz]; exact hst) hfit, ?_⟩
              -- the view behind it
              let G1 := G.addIm fun b' i => if b' = b ∧ off + es.length * P.cellsOf e ≤ i ∧ i < off + es.length * P.cellsOf e + new.toList.length then new.toList[i - (off + es.length * P.cellsOf e)]? else none
              have hle1 : Gh.Le H.next G G1 := Gh.le_addIm _
              have hcen : G1.ce H.next = none := hr.ce_lt (Nat.le_refl _)
              have hle2 : Gh.Le H.next G1 (G1.setCe H.next (b, off + (es ++ xs).length * P.cellsOf e, off + cap * P.cellsOf e)) := Gh.le_setCe (Nat.le_refl _) hcen
              have htokn : (H.retok c l).tok H.next = some l := by simp [AH.retok]
              have hr2 : HRel w0 G1 (H.retok c l) (w.setCells b (off + es.length * P.cellsOf e) new.toList) := hfill.newtok l
              have hend : off + es.length * P.cellsOf e + new.toList.length = off + (es ++ xs).length * P.cellsOf e := by
                rw [hvl, List.length_append, Nat.add_mul, Nat.add_assoc]
              refine ⟨G1.setCe H.next (b, off + (es ++ xs).length * P.cellsOf e, off + cap * P.cellsOf e), H.retok c l, .sl (.tail H.next) (P.cellsOf e) (es ++ xs), hle1.trans hle2 (Nat.le_refl _), by simp [AH.retok], ?_, ?_, k⟩
              · have hsize : ∀ (vs : List Value) (k : Nat) (w : World), (w.setCells b k vs).heap.size = w.heap.size := by
                  intro vs
                  induction vs with
                  | nil => intro k w; rfl
                  | cons v vs ih => intro k w; rw [World.setCells, ih]; simp
                refine hr2.placeTok htokn hcen hbase (by rw [hsize]; exact hr.tblk c b _ _ hce) ?_ ?_ ?_
                · intro j hj1 hj2
                  obtain ⟨⟨v, hv⟩, hfz, him⟩ := hroom j (by omega) hj2
                  refine ⟨⟨v, ?_⟩, ?_, ?_⟩
                  · rw [World.cell?_setCells_out b _ _ w ⟨b, j, none⟩ (fun _ _ => .inr (by simp only; omega))]; exact hv
                  · rw [World.frozen?_setCells]; exact hfz
                  · simp only [G1, Gh.addIm, him, Option.none_or]
                    rw [if_neg (by omega)]
                · intro o y hy hm
                  exact hno o y hy hm
                · intro c' l' k' s' h' hc''
                  have hh : c' ≠ c ∧ H.tok c' = some l' ∨ c' = H.next := by
                    simp only [AH.retok] at h'
                    split at h'
                    · exact .inr (by assumption)
                    · split at h'
                      · cases h'
                      · exact .inl ⟨by assumption, h'⟩
                  rcases hh with ⟨hne, h'⟩ | rfl
                  · exact hne (hr.tinj c' c l' l b k' s' _ _ h' htok hc'' hce)
                  · rw [hcen] at hc''; cases hc''
              · have hlen : es.length + xs.length = (es ++ xs).length := by simp
                rw [hlen]
                have hall : ∀ (i : Nat) (a : AV), (es ++ xs)[i]? = some a → a.cells.length = P.cellsOf e := by
                  intro i a ha
                  rw [List.getElem?_append] at ha
                  split at ha
                  · exact hes _ a ha
                  · exact hxs _ a ha
                have hG1 : Gh.Le 0 G (G1.setCe H.next (b, off + (es ++ xs).length * P.cellsOf e, off + cap * P.cellsOf e)) := (hle1.trans hle2 (Nat.le_refl _)).anti (Nat.zero_le _)
                have hboth : ∀ (i : Nat) (a : AV) (j : Nat) (cc : AV), (es ++ xs)[i]? = some a → a.cells[j]? = some cc →
                    ∃ v, G1.im b (off + i * P.cellsOf e + j) = some v ∧ VRel G cc v := by
                  intro i a j cc ha hj
                  have hjl : j < P.cellsOf e := by have := (List.getElem?_eq_some_iff.1 hj).1; rw [hall i a ha] at this; exact this
                  rw [List.getElem?_append] at ha
                  split at ha
                  · exact ⟨_, hle1.im _ _ _ (h1 i a j cc ha hj), h2 i a j cc ha hj⟩
                  · rename_i hge
                    have hfa := flat_at xs hxs _ a j cc ha hj
                    have hpl := (List.getElem?_eq_some_iff.1 hfa).1
                    have hlc := hcn.len
                    have hv : new.toList[(i - es.length) * P.cellsOf e + j]? = some (new.toList[(i - es.length) * P.cellsOf e + j]'(by omega)) := List.getElem?_eq_getElem _
                    refine ⟨_, ?_, hcn.at_ _ cc _ hfa hv⟩
                    have hpos' : off + i * P.cellsOf e + j = off + es.length * P.cellsOf e + ((i - es.length) * P.cellsOf e + j) := by
                      rw [show i = es.length + (i - es.length) by omega, Nat.add_mul]; simp; omega
                    have hnone : G.im b (off + i * P.cellsOf e + j) = none := (hroom _ (by omega) (by omega)).2.2
                    simp only [G1, Gh.addIm, hnone, Option.none_or]
                    rw [if_pos ⟨trivial, by omega, by omega⟩, hpos', show off + es.length * P.cellsOf e + ((i - es.length) * P.cellsOf e + j) - (off + es.length * P.cellsOf e) = (i - es.length) * P.cellsOf e + j by omega]
                    exact hv
                refine .sl (fun i j => (G1.im b (off + i * P.cellsOf e + j)).getD undef) (by simpa using hfit) ?_ hall ?_ ?_
                · intro _; simp [Gh.setCe]
                · intro i a j cc ha hj
                  obtain ⟨v, hv, _⟩ := hboth i a j cc ha hj
                  simp only [Gh.setCe, hv, Option.getD_some]
                · intro i a j cc ha hj
                  obtain ⟨v, hv, hva⟩ := hboth i a j cc ha hj
                  simp only [hv, Option.getD_some]
                  exact hva.mono hG1
            · -- full, and nothing to append
              have hx0 : xs = [] := List.eq_nil_of_length_eq_zero (by omega)
              subst hx0
              have hnew : new = #[] := by have := hcn.len; simp [flat] at this; exact Array.eq_empty_of_size_eq_zero this.symm
              subst hnew
              refine ⟨_, _, run_append_fits (w' := w) hts htx hnot hi hl (by rw [hsz]; exact hf) rfl (by simpa using hfit), ?_⟩
              refine ⟨G, H.retok c l, _, .refl _ _, by simp [AH.retok], hrt, ?_, k⟩
              simp only [List.append_nil, List.length_nil, Nat.add_zero]
              exact .sl vals hc' (fun hlt' => absurd hlt' hlt) hes h1 h2
          · -- a new row
            obtain ⟨old, ho1, ho2⟩ := sl_cells (P := P) hr.drew hpos hes h1 h2
            obtain ⟨G', g1, g2, g3⟩ := append_new (w := w.drew) hr.drew hpos hi hsz hiz hzs hes hxs ho2 hcn'
              (cap := grownCap w (es.length + xs.length) cap e) (grownCap_ge' w _ _ e) (H' := H.retok c l) rfl hrt.drew (l := l) (by simp [AH.retok])
            refine ⟨_, _, run_append_fresh (old := old) (new := new') hts htx hnot hi hiz hl (by rw [hsz]; simpa [Builtin.firstCells] using ho1) (by rw [hsz]; exact hf') (by omega) (by omega) (hcap _ _ (by omega) hb), ?_⟩
            exact ⟨G', H.retok c l, _, g1, by simp [AH.retok], g2, g3, k⟩
      · cases h
    · cases h
  · cases h
end
end Go.Va
