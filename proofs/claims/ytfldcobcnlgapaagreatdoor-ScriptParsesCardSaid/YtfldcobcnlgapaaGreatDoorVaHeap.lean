/-
  Steps of memory, and what they do to the plain view: a new object, a store, a new row that is never written again, a row that grows at its end.
-/
import Derived.Test.YtfldcobcnlgapaaGreatDoorVaBase
import Derived.Laws.Cells
import Derived.Laws.IdiomCopy
import Derived.Laws.AppendOwn
import Derived.Laws.NewBlocks
set_option linter.unusedVariables false
set_option linter.unusedSimpArgs false
set_option linter.unnecessarySimpa false
namespace Go.Va
open Go.RowKit (Below)

def Gh.setOm (G : Gh) (o b : Nat) : Gh := { G with om := fun o' => if o' = o then some b else G.om o' }
def Gh.addIm (G : Gh) (f : Nat → Nat → Option Value) : Gh := { G with im := fun b i => (G.im b i).or (f b i) }
def Gh.setCe (G : Gh) (c : Nat) (x : Nat × Nat × Nat) : Gh := { G with ce := fun c' => if c' = c then some x else G.ce c' }

theorem Gh.le_setOm {n : Nat} {G : Gh} {o b : Nat} (hn : n ≤ o) (h : G.om o = none) : Gh.Le n G (G.setOm o b) where
  om o' b' h' := by
    simp only [Gh.setOm]
    split
    · rename_i e; subst e; rw [h] at h'; cases h'
    · exact h'
  im _ _ _ h' := h'
  ce _ _ h' := h'
  omn o' ho := by simp only [Gh.setOm]; rw [if_neg (by omega)]
  cen _ _ := rfl
theorem Gh.le_addIm {n : Nat} {G : Gh} (f : Nat → Nat → Option Value) : Gh.Le n G (G.addIm f) where
  om _ _ h := h
  im b i v h := by simp [Gh.addIm, h]
  ce _ _ h := h
  omn _ _ := rfl
  cen _ _ := rfl
theorem Gh.le_setCe {n : Nat} {G : Gh} {c : Nat} {x : Nat × Nat × Nat} (hn : n ≤ c) (h : G.ce c = none) : Gh.Le n G (G.setCe c x) where
  om _ _ h := h
  im _ _ _ h := h
  ce c' y h' := by
    simp only [Gh.setCe]
    split
    · rename_i e; subst e; rw [h] at h'; cases h'
    · exact h'
  omn _ _ := rfl
  cen c' hc := by simp only [Gh.setCe]; rw [if_neg (by omega)]

def AH.add (H : AH) (x : AObj) : AH := { H with get := fun o => if o = H.next then some x else H.get o, next := H.next + 1 }
def AH.put (H : AH) (o : Nat) (x : AObj) : AH := { H with get := fun o' => if o' = o then some x else H.get o' }
def AH.kill (H : AH) (o : Nat) : AH := { H with get := fun o' => if o' = o then none else H.get o' }
/-- token c is used up, a new one (bearing the label l) takes its place -/
def AH.retok (H : AH) (c : Nat) (l : Nat) : AH := { H with tok := fun c' => if c' = H.next then some l else if c' = c then none else H.tok c', next := H.next + 1 }
/-- a new token -/
def AH.newtok (H : AH) (l : Nat) : AH := { H with tok := fun c' => if c' = H.next then some l else H.tok c', next := H.next + 1 }

section
variable {w0 w : World} {G : Gh} {H : AH}

theorem HRel.om_lt (h : HRel w0 G H w) {o : Nat} (ho : H.next ≤ o) : G.om o = none := by
  cases hm : G.om o with
  | none => rfl
  | some b => have := (h.dom o b hm).1; omega
theorem HRel.ce_lt (h : HRel w0 G H w) {c : Nat} (hc : H.next ≤ c) : G.ce c = none := by
  cases hm : G.ce c with
  | none => rfl
  | some x => have := h.tdom c x hm; omega
theorem HRel.im_lt (h : HRel w0 G H w) {b i : Nat} (hb : w.heap.size ≤ b) : G.im b i = none := by
  cases hm : G.im b i with
  | none => rfl
  | some v => have := World.block_lt_of_cell? w ⟨b, i, none⟩ (h.im b i v hm); simp only at this; omega

/-- A promised object: it has no place yet. -/
theorem HRel.add (h : HRel w0 G H w) (x : AObj) : HRel w0 G (H.add x) w := by
  have hn : G.om H.next = none := h.om_lt (Nat.le_refl _)
  refine ⟨h.below, ?_, ?_, ?_, ?_, h.im, ?_, ?_, h.tinj, ?_, h.tblk, ?_⟩
  · intro o y b ho hm
    simp only [AH.add] at ho
    split at ho
    · rename_i e; subst e; rw [hn] at hm; cases hm
    · exact h.obj o y b ho hm
  · intro o o' y y' b ho ho' hm hm'
    simp only [AH.add] at ho ho'
    split at ho
    · rename_i e; subst e; rw [hn] at hm; cases hm
    · split at ho'
      · rename_i e; subst e; rw [hn] at hm'; cases hm'
      · exact h.inj o o' y y' b ho ho' hm hm'
  · intro o b hm; have := h.dom o b hm; exact ⟨by simp only [AH.add]; omega, this.2⟩
  · intro o y ho
    simp only [AH.add] at ho ⊢
    split at ho
    · omega
    · have := h.hdom o y ho; omega
  · intro o y b i ho hm
    simp only [AH.add] at ho
    split at ho
    · rename_i e; subst e; rw [hn] at hm; cases hm
    · exact h.imo o y b i ho hm
  · intro c l b k s ht hce
    obtain ⟨h1, h3, h4⟩ := h.tok c l b k s ht hce
    refine ⟨h1, h3, fun o y ho => ?_⟩
    simp only [AH.add] at ho
    split at ho
    · rename_i e; subst e; rw [hn]; simp
    · exact h4 o y ho
  · intro c x hc; have := h.tdom c x hc; simp only [AH.add]; omega
  · intro c l ht; have := h.htok c l ht; simp only [AH.add]; omega

/-- A promised object gets its place: a new block. -/
theorem HRel.place (h : HRel w0 G H w) {o : Nat} {x : AObj} (ho : H.get o = some x) (hm : G.om o = none) (obj : Obj)
    (hx : ORel (G.setOm o w.heap.size) w.heap.size (w.alloc obj) x) : HRel w0 (G.setOm o w.heap.size) H (w.alloc obj) := by
  have hlt : o < H.next := h.hdom o x ho
  have hle : Gh.Le 0 G (G.setOm o w.heap.size) := Gh.le_setOm (Nat.zero_le _) hm
  have hg := h.grow ((Below.refl w.heap.size w).alloc (Nat.le_refl _) obj)
  have hom : ∀ o' b, (G.setOm o w.heap.size).om o' = some b → o' = o ∧ b = w.heap.size ∨ o' ≠ o ∧ G.om o' = some b := by
    intro o' b hb
    simp only [Gh.setOm] at hb
    split at hb
    · exact .inl ⟨by assumption, by simpa using hb.symm⟩
    · exact .inr ⟨by assumption, hb⟩
  refine ⟨hg.below, ?_, ?_, ?_, h.hdom, hg.im, ?_, ?_, h.tinj, h.tdom, hg.tblk, h.htok⟩
  · intro o' y b ho' hb
    rcases hom o' b hb with ⟨rfl, rfl⟩ | ⟨hne, hb⟩
    · rw [ho] at ho'
      cases ho'
      exact ⟨h.below.size, hx⟩
    · obtain ⟨h1, h2⟩ := hg.obj o' y b ho' hb
      exact ⟨h1, h2.mono hle⟩
  · intro o1 o2 y1 y2 b h1 h2 hb1 hb2
    rcases hom o1 b hb1 with ⟨rfl, rfl⟩ | ⟨_, g1⟩
    · rcases hom o2 _ hb2 with ⟨rfl, _⟩ | ⟨_, g2⟩
      · rfl
      · have := (h.dom o2 _ g2).2; omega
    · rcases hom o2 b hb2 with ⟨rfl, rfl⟩ | ⟨_, g2⟩
      · have := (h.dom o1 _ g1).2; omega
      · exact h.inj o1 o2 y1 y2 b h1 h2 g1 g2
  · intro o' b hb
    rcases hom o' b hb with ⟨rfl, rfl⟩ | ⟨hne, hb⟩
    · exact ⟨hlt, by simp⟩
    · exact hg.dom o' b hb
  · intro o' y b i ho' hb
    rcases hom o' b hb with ⟨rfl, rfl⟩ | ⟨hne, hb⟩
    · exact h.im_lt (Nat.le_refl _)
    · exact h.imo o' y b i ho' hb
  · intro c l b k s ht hce
    obtain ⟨h1, h3, h4⟩ := hg.tok c l b k s ht hce
    refine ⟨h1, h3, fun o' y ho' hb => ?_⟩
    rcases hom o' b hb with ⟨rfl, rfl⟩ | ⟨hne, hb⟩
    · have := h.tblk c _ k s hce; omega
    · exact h4 o' y ho' hb

theorem HRel.getElem_cells (h : HRel w0 G H w) {o b : Nat} {cs : List AV} (ho : H.get o = some (.cells cs)) (hm : G.om o = some b) {i : Nat} {x : AV} (hi : cs[i]? = some x) :
    ∃ v, w.cell? ⟨b, i, none⟩ = some v ∧ w.frozen? ⟨b, i, none⟩ = false ∧ VRel G x v := (h.obj o _ b ho hm).2 i x hi

theorem below_setCell {w : World} {b i : Nat} {v : Value} : ∀ (k : Nat), k ≠ b → (w.setCell ⟨b, i, none⟩ v).heap[k]? = w.heap[k]? := fun k hk => Below.heap_setCell _ _ _ _ hk

/-- One cell of an object is written. -/
theorem HRel.store (h : HRel w0 G H w) {o b : Nat} {cs : List AV} (ho : H.get o = some (.cells cs)) (hm : G.om o = some b) {i : Nat} {x : AV} {v : Value}
    (hi : i < cs.length) (hx : VRel G x v) : HRel w0 G (H.put o (.cells (cs.set i x))) (w.setCell ⟨b, i, none⟩ v) := by
  obtain ⟨hbase, hobj⟩ := h.obj o _ b ho hm
  have hget : ∀ o' y, (H.put o (.cells (cs.set i x))).get o' = some y → o' = o ∧ y = .cells (cs.set i x) ∨ o' ≠ o ∧ H.get o' = some y := by
    intro o' y hy
    simp only [AH.put] at hy
    split at hy
    · exact .inl ⟨by assumption, by simpa using hy.symm⟩
    · exact .inr ⟨by assumption, hy⟩
  have old : ∀ o' y, (H.put o (.cells (cs.set i x))).get o' = some y → ∃ y', H.get o' = some y' := by
    intro o' y hy
    rcases hget o' y hy with ⟨rfl, _⟩ | ⟨_, hy⟩
    · exact ⟨_, ho⟩
    · exact ⟨_, hy⟩
  have hblk : ∀ k, k ≠ b → (w.setCell ⟨b, i, none⟩ v).heap[k]? = w.heap[k]? := below_setCell
  have hne : ∀ o' y b', o' ≠ o → H.get o' = some y → G.om o' = some b' → b' ≠ b := fun o' y b' hn hy hb' e => hn (h.inj o' o y _ b' hy ho hb' (e ▸ hm))
  refine ⟨?_, ?_, ?_, ?_, ?_, ?_, ?_, ?_, h.tinj, h.tdom, ?_, h.htok⟩
  · exact h.below.setCell (p := ⟨b, i, none⟩) hbase v
  · intro o' y b' hy hb'
    rcases hget o' y hy with ⟨rfl, rfl⟩ | ⟨hn, hy⟩
    · rw [hm] at hb'; cases hb'
      refine ⟨hbase, ?_⟩
      intro j z hj
      rw [List.getElem?_set] at hj
      split at hj
      · rename_i e; subst e
        simp [hi] at hj
        subst hj
        obtain ⟨u, hu, hf, _⟩ := hobj i (cs[i]) (List.getElem?_eq_getElem hi)
        exact ⟨v, World.cell?_setCell_same w _ v hu, by simpa using hf, hx⟩
      · rename_i hne'
        obtain ⟨u, hu, hf, hr⟩ := hobj j z hj
        exact ⟨u, by rw [World.cell?_setCell_other _ _ _ _ (by simp; omega)]; exact hu, by simpa using hf, hr⟩
    · obtain ⟨h1, h2⟩ := h.obj o' y b' hy hb'
      exact ⟨h1, h2.of_block (hblk b' (hne o' y b' hn hy hb'))⟩
  · intro o1 o2 y1 y2 b' h1 h2 hb1 hb2
    obtain ⟨z1, hz1⟩ := old o1 y1 h1
    obtain ⟨z2, hz2⟩ := old o2 y2 h2
    exact h.inj o1 o2 z1 z2 b' hz1 hz2 hb1 hb2
  · intro o' b' hb'; have := h.dom o' b' hb'; exact ⟨this.1, by simpa using this.2⟩
  · intro o' y hy; obtain ⟨z, hz⟩ := old o' y hy; exact h.hdom o' z hz
  · intro b' j u hu
    have hb : b' ≠ b := fun e => by subst e; rw [h.imo o _ b' j ho hm] at hu; cases hu
    rw [World.cell?_setCell_other _ _ _ _ (by simp; omega)]
    exact h.im b' j u hu
  · intro o' y b' j hy hb'; obtain ⟨z, hz⟩ := old o' y hy; exact h.imo o' z b' j hz hb'
  · intro c l b' k s ht hce
    obtain ⟨h1, h3, h4⟩ := h.tok c l b' k s ht hce
    have hb : b' ≠ b := fun e => h4 o _ ho (e ▸ hm)
    refine ⟨h1, fun j hk hs => ?_, fun o' y hy => ?_⟩
    · rw [World.cell?_setCell_other _ _ _ _ (by simp; omega)]
      have := h3 j hk hs
      exact ⟨this.1, by simpa using this.2.1, this.2.2⟩
    · obtain ⟨z, hz⟩ := old o' y hy; exact h4 o' z hz
  · intro c b' k s hce; simpa using h.tblk c b' k s hce

/-- A new row whose first cells are never written again. -/
theorem cell_alloc (w : World) (c : Array Value) (t : TypeId) (f : Nat × Nat) (i : Nat) : (w.alloc (.cells c t f)).cell? ⟨w.heap.size, i, none⟩ = c[i]? := by
  have : (w.alloc (.cells c t f)).heap[w.heap.size]? = some (.cells c t f) := by
    show (w.heap.push _)[w.heap.size]? = _; simp
  unfold World.cell?; rw [this]; rfl
theorem HRel.newRow (h : HRel w0 G H w) (c : Array Value) (t : TypeId) (k : Nat) (f : Nat × Nat := (0, 0)) :
    HRel w0 (G.addIm fun b i => if b = w.heap.size ∧ i < k then c[i]? else none) H (w.alloc (.cells c t f)) := by
  have hle : Gh.Le 0 G (G.addIm fun b i => if b = w.heap.size ∧ i < k then c[i]? else none) := Gh.le_addIm _
  have hg := h.grow ((Below.refl w.heap.size w).alloc (Nat.le_refl _) (.cells c t f))
  refine ⟨hg.below, ?_, h.inj, hg.dom, h.hdom, ?_, ?_, ?_, h.tinj, h.tdom, hg.tblk, h.htok⟩
  · intro o y b hy hb
    obtain ⟨h1, h2⟩ := hg.obj o y b hy hb
    exact ⟨h1, h2.mono hle⟩
  · intro b i v hv
    simp only [Gh.addIm] at hv
    cases hi : G.im b i with
    | some u => rw [hi] at hv; simp at hv; subst hv; exact hg.im b i u hi
    | none =>
      rw [hi] at hv
      simp only [Option.none_or] at hv
      split at hv
      · rename_i e; obtain ⟨rfl, _⟩ := e; rw [cell_alloc]; exact hv
      · cases hv
  · intro o y b i hy hb
    have hlt := (h.dom o b hb).2
    simp only [Gh.addIm, h.imo o y b i hy hb, Option.none_or]
    rw [if_neg (by omega)]
  · intro c' l b k' s ht hce
    obtain ⟨h1, h3, h4⟩ := hg.tok c' l b k' s ht hce
    have hlt := h.tblk c' b k' s hce
    refine ⟨h1, fun i hk hs => ?_, h4⟩
    obtain ⟨a, b', d⟩ := h3 i hk hs
    refine ⟨a, b', ?_⟩
    simp only [Gh.addIm, d, Option.none_or]
    rw [if_neg (by omega)]

/-- A new token, of a place that nobody else may write: it may be promised before it has a place. -/
theorem HRel.newtok (h : HRel w0 G H w) (l : Nat) : HRel w0 G (H.newtok l) w := by
  have hn : G.ce H.next = none := h.ce_lt (Nat.le_refl _)
  refine ⟨h.below, h.obj, h.inj, ?_, ?_, h.im, h.imo, ?_, ?_, ?_, h.tblk, ?_⟩
  · intro o b hm; have := h.dom o b hm; exact ⟨by simp only [AH.newtok]; omega, this.2⟩
  · intro o y ho; have := h.hdom o y ho; simp only [AH.newtok]; omega
  · intro c l' b k s ht hce
    simp only [AH.newtok] at ht
    split at ht
    · rename_i e; subst e; rw [hn] at hce; cases hce
    · exact h.tok c l' b k s ht hce
  · intro c c' l1 l2 b k s k' s' h1 h2 hc hc'
    simp only [AH.newtok] at h1 h2
    split at h1
    · rename_i e; subst e; rw [hn] at hc; cases hc
    · split at h2
      · rename_i e; subst e; rw [hn] at hc'; cases hc'
      · exact h.tinj c c' l1 l2 b k s k' s' h1 h2 hc hc'
  · intro c x hc; have := h.tdom c x hc; simp only [AH.newtok]; omega
  · intro c l' ht
    simp only [AH.newtok] at ht ⊢
    split at ht
    · omega
    · have := h.htok c l' ht; omega

/-- A token is used up. -/
def AH.untok (H : AH) (c : Nat) : AH := { H with tok := fun c' => if c' = c then none else H.tok c' }
theorem HRel.untok (h : HRel w0 G H w) (c : Nat) : HRel w0 G (H.untok c) w := by
  have hs : ∀ c' l, (H.untok c).tok c' = some l → H.tok c' = some l := by
    intro c' l hl; simp only [AH.untok] at hl; split at hl
    · cases hl
    · exact hl
  exact ⟨h.below, h.obj, h.inj, h.dom, h.hdom, h.im, h.imo, fun c' l b k s ht => h.tok c' l b k s (hs c' l ht),
    fun c1 c2 l1 l2 b k s k' s' h1 h2 => h.tinj c1 c2 l1 l2 b k s k' s' (hs _ _ h1) (hs _ _ h2), h.tdom, h.tblk, fun c' l ht => h.htok c' l (hs c' l ht)⟩

/-- The promised token c gets its place: room in block b behind k. -/
theorem HRel.placeTok (h : HRel w0 G H w) {c l b k s : Nat} (ht : H.tok c = some l) (hc : G.ce c = none) (hbase : w0.heap.size ≤ b) (hlt : b < w.heap.size)
    (hroom : ∀ i, k ≤ i → i < s → (∃ v, w.cell? ⟨b, i, none⟩ = some v) ∧ w.frozen? ⟨b, i, none⟩ = false ∧ G.im b i = none)
    (hno : ∀ o x, H.get o = some x → G.om o ≠ some b) (hone : ∀ c' l' k' s', H.tok c' = some l' → G.ce c' = some (b, k', s') → False) : HRel w0 (G.setCe c (b, k, s)) H w := by
  have hle : Gh.Le 0 G (G.setCe c (b, k, s)) := Gh.le_setCe (Nat.zero_le _) hc
  have hce : ∀ c' x, (G.setCe c (b, k, s)).ce c' = some x → c' = c ∧ x = (b, k, s) ∨ c' ≠ c ∧ G.ce c' = some x := by
    intro c' x hx
    simp only [Gh.setCe] at hx
    split at hx
    · exact .inl ⟨by assumption, by simpa using hx.symm⟩
    · exact .inr ⟨by assumption, hx⟩
  refine ⟨h.below, fun o y b' hy hb => ⟨(h.obj o y b' hy hb).1, (h.obj o y b' hy hb).2.mono hle⟩, h.inj, h.dom, h.hdom, h.im, h.imo, ?_, ?_, ?_, ?_, h.htok⟩
  · intro c' l' b' k' s' ht' hc'
    rcases hce c' _ hc' with ⟨rfl, e⟩ | ⟨_, hc'⟩
    · cases e; exact ⟨hbase, hroom, hno⟩
    · exact h.tok c' l' b' k' s' ht' hc'
  · intro c1 c2 l1 l2 b' k1 s1 k2 s2 h1 h2 hc1 hc2
    rcases hce c1 _ hc1 with ⟨rfl, e1⟩ | ⟨_, g1⟩
    · rcases hce c2 _ hc2 with ⟨rfl, _⟩ | ⟨_, g2⟩
      · rfl
      · cases e1; exact (hone c2 l2 k2 s2 h2 g2).elim
    · rcases hce c2 _ hc2 with ⟨rfl, e2⟩ | ⟨_, g2⟩
      · cases e2; exact (hone c1 l1 k1 s1 h1 g1).elim
      · exact h.tinj c1 c2 l1 l2 b' k1 s1 k2 s2 h1 h2 g1 g2
  · intro c' x hx
    rcases hce c' x hx with ⟨rfl, _⟩ | ⟨_, hx⟩
    · exact h.htok _ _ ht
    · exact h.tdom c' x hx
  · intro c' b' k' s' hx
    rcases hce c' _ hx with ⟨rfl, e⟩ | ⟨_, hx⟩
    · cases e; exact hlt
    · exact h.tblk c' b' k' s' hx
end
end Go.Va
