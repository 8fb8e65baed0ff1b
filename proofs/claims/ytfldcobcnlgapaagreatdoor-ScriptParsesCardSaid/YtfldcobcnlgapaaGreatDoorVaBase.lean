/-
  A plain view of the machine's memory, for proofs: values that name objects by numbers of their own, and slices that are never written again as the lists that they hold; how such a view stands to a world ('HRel'); that it is kept when memory grows.
-/
import Derived.Calls
import Derived.Orders
import Derived.Below
import Derived.Scope
import Derived.ScopeJumps
import Derived.OwnWalk
set_option linter.unusedVariables false
set_option linter.unusedSimpArgs false
set_option linter.unnecessarySimpa false
namespace Go.Va
open Go.RowKit (Below)

/-- What an append to a slice may do: nothing is known of what lies behind it (stuck: no append is let); there is no room behind it (full); the right to append at its end is the token c. -/
inductive Grow where
  | full
  | stuck
  | tail (c : Nat)
  deriving DecidableEq

inductive AV where
  | undef
  | bool (b : Bool)
  | int (k : IntKind) (n : Int)
  | float (k : FloatKind) (bits : Nat)
  | cplx (k : FloatKind) (re im : Nat)
  | str (s : List UInt8)
  | nilp
  | ptr (o off : Nat)
  | elem (cs : List AV) (off : Nat)
  | nils
  | sl (g : Grow) (sz : Nat) (es : List AV)
  | osl (o off n cap : Nat)
  | nilm
  | map (r : Nat)
  | iter (r : Nat)
  | nilf
  | fn (f : Fn) (first captured : List AV)
  | nili
  | iface (t : TypeId) (v : AV)
  | agg (cs : List AV)
  | tup (vs : List AV)
  deriving Inhabited

def AV.cells : AV → List AV
  | .agg cs => cs
  | v => [v]

/-- The bookkeeping between a view and a world: where an object lies; cells that are not written any more; for a token: the block, the end of what is held, the end of the room. -/
structure Gh where
  om : Nat → Option Nat
  im : Nat → Nat → Option Value
  ce : Nat → Option (Nat × Nat × Nat)

structure Gh.Le (n : Nat) (G G' : Gh) : Prop where
  om : ∀ o b, G.om o = some b → G'.om o = some b
  im : ∀ b i v, G.im b i = some v → G'.im b i = some v
  ce : ∀ c x, G.ce c = some x → G'.ce c = some x
  omn : ∀ o, o < n → G'.om o = G.om o
  cen : ∀ c, c < n → G'.ce c = G.ce c

theorem Gh.Le.refl (n : Nat) (G : Gh) : Gh.Le n G G := ⟨fun _ _ h => h, fun _ _ _ h => h, fun _ _ h => h, fun _ _ => rfl, fun _ _ => rfl⟩
theorem Gh.Le.trans {n n' : Nat} {G G' G'' : Gh} (h : Gh.Le n G G') (h' : Gh.Le n' G' G'') (hn : n ≤ n') : Gh.Le n G G'' :=
  ⟨fun o b e => h'.om o b (h.om o b e), fun b i v e => h'.im b i v (h.im b i v e), fun c x e => h'.ce c x (h.ce c x e),
   fun o ho => (h'.omn o (Nat.lt_of_lt_of_le ho hn)).trans (h.omn o ho), fun c hc => (h'.cen c (Nat.lt_of_lt_of_le hc hn)).trans (h.cen c hc)⟩
theorem Gh.Le.anti {n n' : Nat} {G G' : Gh} (h : Gh.Le n' G G') (hn : n ≤ n') : Gh.Le n G G' :=
  ⟨h.om, h.im, h.ce, fun o ho => h.omn o (Nat.lt_of_lt_of_le ho hn), fun c hc => h.cen c (Nat.lt_of_lt_of_le hc hn)⟩

def GrowOk (G : Gh) (b off len sz cap : Nat) : Grow → Prop
  | .full => cap = len
  | .stuck => True
  | .tail c => len < cap → G.ce c = some (b, off + len * sz, off + cap * sz)

inductive VRel (G : Gh) : AV → Value → Prop where
  | undef (v : Value) : VRel G .undef v
  | bool (b : Bool) : VRel G (.bool b) (.bool b)
  | int (k : IntKind) (n : Int) : VRel G (.int k n) (.int k n)
  | float (k : FloatKind) (n : Nat) : VRel G (.float k n) (.float k n)
  | cplx (k : FloatKind) (re im : Nat) : VRel G (.cplx k re im) (.complex k re im)
  | str (s : List UInt8) : VRel G (.str s) (.string ⟨s.toArray⟩)
  | nilp : VRel G .nilp (.pointer none)
  | ptr {o b : Nat} (off : Nat) (h : G.om o = some b) : VRel G (.ptr o off) (.pointer (some ⟨b, off, none⟩))
  | elem {cs : List AV} {b base : Nat} (off : Nat) (vals : Nat → Value) (h : ∀ (j : Nat) (c : AV), cs[j]? = some c → G.im b (base + j) = some (vals j))
      (hv : ∀ (j : Nat) (c : AV), cs[j]? = some c → VRel G c (vals j)) : VRel G (.elem cs off) (.pointer (some ⟨b, base + off, none⟩))
  | nils : VRel G .nils (.slice none 0 0)
  | sl {g : Grow} {sz : Nat} {es : List AV} {b off cap : Nat} (vals : Nat → Nat → Value) (hc : es.length ≤ cap) (hg : GrowOk G b off es.length sz cap g)
      (hs : ∀ (i : Nat) (e : AV), es[i]? = some e → e.cells.length = sz)
      (h : ∀ (i : Nat) (e : AV) (j : Nat) (c : AV), es[i]? = some e → e.cells[j]? = some c → G.im b (off + i * sz + j) = some (vals i j))
      (hv : ∀ (i : Nat) (e : AV) (j : Nat) (c : AV), es[i]? = some e → e.cells[j]? = some c → VRel G c (vals i j)) :
      VRel G (.sl g sz es) (.slice (some ⟨b, off, none⟩) es.length cap)
  | osl {o b : Nat} (off n cap : Nat) (h : G.om o = some b) (hc : n ≤ cap) : VRel G (.osl o off n cap) (.slice (some ⟨b, off, none⟩) n cap)
  | nilm : VRel G .nilm (.map none)
  | map {r b : Nat} (h : G.om r = some b) : VRel G (.map r) (.map (some b))
  | iter {r b : Nat} (h : G.om r = some b) : VRel G (.iter r) (.pointer (some ⟨b, 0, none⟩))
  | nilf : VRel G .nilf .nilFunc
  | fn {f : Fn} {fs cs : List AV} {first captured : Array Value} (hf : first.size = fs.length) (hc : captured.size = cs.length)
      (h1 : ∀ (i : Nat) (a : AV) (v : Value), fs[i]? = some a → first[i]? = some v → VRel G a v) (h2 : ∀ (i : Nat) (a : AV) (v : Value), cs[i]? = some a → captured[i]? = some v → VRel G a v) :
      VRel G (.fn f fs cs) (.func f first captured)
  | nili : VRel G .nili .nilIface
  | iface {t : TypeId} {a : AV} {v : Value} (h : VRel G a v) : VRel G (.iface t a) (.iface t v)
  | agg {cs : List AV} {vs : Array Value} (hs : vs.size = cs.length) (h : ∀ (i : Nat) (a : AV) (v : Value), cs[i]? = some a → vs[i]? = some v → VRel G a v) : VRel G (.agg cs) (.agg vs)
  | tup {cs : List AV} {vs : Array Value} (hs : vs.size = cs.length) (h : ∀ (i : Nat) (a : AV) (v : Value), cs[i]? = some a → vs[i]? = some v → VRel G a v) : VRel G (.tup cs) (.tuple vs)

theorem GrowOk.mono {n : Nat} {G G' : Gh} (h : Gh.Le n G G') {b off len sz cap : Nat} {g : Grow} (hg : GrowOk G b off len sz cap g) : GrowOk G' b off len sz cap g := by
  cases g with
  | full => exact hg
  | stuck => trivial
  | tail c => exact fun hl => h.ce _ _ (hg hl)

theorem VRel.mono {n : Nat} {G G' : Gh} (hle : Gh.Le n G G') {a : AV} {v : Value} (h : VRel G a v) : VRel G' a v := by
  induction h with
  | undef v => exact .undef v
  | bool b => exact .bool b
  | int k n => exact .int k n
  | float k n => exact .float k n
  | cplx k re im => exact .cplx k re im
  | str s => exact .str s
  | nilp => exact .nilp
  | ptr off h => exact .ptr off (hle.om _ _ h)
  | elem off vals h hv ih => exact .elem off vals (fun j c hj => hle.im _ _ _ (h j c hj)) ih
  | nils => exact .nils
  | sl vals hc hg hs h hv ih => exact .sl vals hc (hg.mono hle) hs (fun i e j c hi hj => hle.im _ _ _ (h i e j c hi hj)) ih
  | osl off n cap h hc => exact .osl off n cap (hle.om _ _ h) hc
  | nilm => exact .nilm
  | map h => exact .map (hle.om _ _ h)
  | iter h => exact .iter (hle.om _ _ h)
  | nilf => exact .nilf
  | fn hf hc _ _ i1 i2 => exact .fn hf hc i1 i2
  | nili => exact .nili
  | iface _ ih => exact .iface ih
  | agg hs _ ih => exact .agg hs ih
  | tup hs _ ih => exact .tup hs ih

structure AEnt where
  key : AV
  val : AV
  born : Nat

inductive AObj where
  | cells (cs : List AV)
  | map (es : List AEnt) (clock : Nat)
  | sIter (s : List UInt8) (pos : Nat)
  | mIter (m : Option Nat) (since : Nat) (seen : List Nat) (last : Nat)

structure AH where
  get : Nat → Option AObj
  tok : Nat → Option Nat
  next : Nat

def ORel (G : Gh) (b : Nat) (w : World) : AObj → Prop
  | .cells cs => ∀ (i : Nat) (x : AV), cs[i]? = some x → ∃ v, w.cell? ⟨b, i, none⟩ = some v ∧ w.frozen? ⟨b, i, none⟩ = false ∧ VRel G x v
  | .map es clock => ∃ ces : Array MapEntry, w.heap[b]? = some (.map ces clock) ∧ ces.size = es.length ∧
      ∀ (i : Nat) (e : AEnt) (c : MapEntry), es[i]? = some e → ces[i]? = some c → VRel G e.key c.key ∧ VRel G e.val c.val ∧ c.born = e.born
  | .sIter s pos => w.heap[b]? = some (.stringIter ⟨s.toArray⟩ pos)
  | .mIter m since seen last => ∃ cm, w.heap[b]? = some (.mapIter cm since seen.toArray last) ∧
      match m with
      | none => cm = none
      | some r => ∃ bm, G.om r = some bm ∧ cm = some bm

structure HRel (w0 : World) (G : Gh) (H : AH) (w : World) : Prop where
  below : Below w0.heap.size w0 w
  obj : ∀ o x b, H.get o = some x → G.om o = some b → w0.heap.size ≤ b ∧ ORel G b w x
  inj : ∀ o o' x x' b, H.get o = some x → H.get o' = some x' → G.om o = some b → G.om o' = some b → o = o'
  dom : ∀ o b, G.om o = some b → o < H.next ∧ b < w.heap.size
  hdom : ∀ o x, H.get o = some x → o < H.next
  im : ∀ b i v, G.im b i = some v → w.cell? ⟨b, i, none⟩ = some v
  imo : ∀ o x b i, H.get o = some x → G.om o = some b → G.im b i = none
  tok : ∀ c l b k s, H.tok c = some l → G.ce c = some (b, k, s) → w0.heap.size ≤ b ∧
      (∀ i, k ≤ i → i < s → (∃ v, w.cell? ⟨b, i, none⟩ = some v) ∧ w.frozen? ⟨b, i, none⟩ = false ∧ G.im b i = none) ∧ (∀ o x, H.get o = some x → G.om o ≠ some b)
  tinj : ∀ c c' l l' b k s k' s', H.tok c = some l → H.tok c' = some l' → G.ce c = some (b, k, s) → G.ce c' = some (b, k', s') → c = c'
  tdom : ∀ c x, G.ce c = some x → c < H.next
  tblk : ∀ c b k s, G.ce c = some (b, k, s) → b < w.heap.size
  htok : ∀ c l, H.tok c = some l → c < H.next

/-- An object's relation looks at its own block alone. -/
theorem ORel.of_block {G : Gh} {b : Nat} {w w' : World} {x : AObj} (h : ORel G b w x) (hb : w'.heap[b]? = w.heap[b]?) : ORel G b w' x := by
  have hc : ∀ i, w'.cell? ⟨b, i, none⟩ = w.cell? ⟨b, i, none⟩ := fun i => by simp only [World.cell?, hb]
  have hf : ∀ i, w'.frozen? ⟨b, i, none⟩ = w.frozen? ⟨b, i, none⟩ := fun i => by simp only [World.frozen?, hb]
  cases x with
  | cells cs => intro i x hi; rw [hc, hf]; exact h i x hi
  | map es clock => obtain ⟨ces, h1, h2⟩ := h; exact ⟨ces, by rw [hb]; exact h1, h2⟩
  | sIter s pos => show w'.heap[b]? = _; rw [hb]; exact h
  | mIter m since seen last => obtain ⟨cm, h1, h2⟩ := h; exact ⟨cm, by rw [hb]; exact h1, h2⟩

theorem ORel.mono {n : Nat} {G G' : Gh} (hle : Gh.Le n G G') {b : Nat} {w : World} {x : AObj} (h : ORel G b w x) : ORel G' b w x := by
  cases x with
  | cells cs => intro i x hi; obtain ⟨v, h1, h2, h3⟩ := h i x hi; exact ⟨v, h1, h2, h3.mono hle⟩
  | map es clock =>
    obtain ⟨ces, h1, h2, h3⟩ := h
    exact ⟨ces, h1, h2, fun i e c he hc => let ⟨a, b, d⟩ := h3 i e c he hc; ⟨a.mono hle, b.mono hle, d⟩⟩
  | sIter s pos => exact h
  | mIter m since seen last =>
    obtain ⟨cm, h1, h2⟩ := h
    refine ⟨cm, h1, ?_⟩
    cases m with
    | none => exact h2
    | some r => obtain ⟨bm, h3, h4⟩ := h2; exact ⟨bm, hle.om _ _ h3, h4⟩

/-- What the relation keeps when the world only grows (new blocks, draws). -/
theorem HRel.grow {w0 : World} {G : Gh} {H : AH} {w w' : World} (h : HRel w0 G H w) (hb : Below w.heap.size w w') : HRel w0 G H w' := by
  have hc : ∀ b i, b < w.heap.size → w'.cell? ⟨b, i, none⟩ = w.cell? ⟨b, i, none⟩ := fun b i hlt => hb.cell (p := ⟨b, i, none⟩) hlt
  have hf : ∀ b i, b < w.heap.size → w'.frozen? ⟨b, i, none⟩ = w.frozen? ⟨b, i, none⟩ := fun b i hlt => hb.frozen (p := ⟨b, i, none⟩) hlt
  refine ⟨h.below.trans (hb.mono h.below.size), ?_, h.inj, ?_, h.hdom, ?_, h.imo, ?_, h.tinj, h.tdom, ?_, h.htok⟩
  · intro o x b ho hm
    obtain ⟨h1, h2⟩ := h.obj o x b ho hm
    exact ⟨h1, h2.of_block (hb.block b (h.dom o b hm).2)⟩
  · intro o b hm; exact ⟨(h.dom o b hm).1, Nat.lt_of_lt_of_le (h.dom o b hm).2 hb.size⟩
  · intro b i v hi
    have h1 := h.im b i v hi
    have : b < w.heap.size := World.block_lt_of_cell? w ⟨b, i, none⟩ h1
    rw [hc b i this]; exact h1
  · intro c l b k s ht hce
    obtain ⟨h1, h3, h4⟩ := h.tok c l b k s ht hce
    have h2 := h.tblk c b k s hce
    refine ⟨h1, fun i hk hs => ?_, h4⟩
    rw [hc b i h2, hf b i h2]; exact h3 i hk hs
  · intro c b k s hce; exact Nat.lt_of_lt_of_le (h.tblk c b k s hce) hb.size

theorem HRel.drew {w0 : World} {G : Gh} {H : AH} {w : World} (h : HRel w0 G H w) : HRel w0 G H w.drew := h.grow (Below.drew (Below.refl _ _))

/-- More objects may be promised than there are: those that have no place yet say nothing. -/
theorem HRel.lt_of_tok {w0 : World} {G : Gh} {H : AH} {w : World} (h : HRel w0 G H w) {c b k s : Nat} (hce : G.ce c = some (b, k, s)) : b < w.heap.size := h.tblk c b k s hce

end Go.Va
