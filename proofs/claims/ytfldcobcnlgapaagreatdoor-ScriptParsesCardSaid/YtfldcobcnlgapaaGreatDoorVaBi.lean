/-
  Built-in functions over the plain view: lengths, least and greatest, parts of complex numbers, entries taken from maps; strings as bytes.
-/
import Derived.Test.YtfldcobcnlgapaaGreatDoorVaIter
import Derived.Laws.IdiomStrings
import Derived.Laws.BytesArg
set_option linter.unusedVariables false
set_option linter.unusedSimpArgs false
set_option linter.unnecessarySimpa false
namespace Go.Va
open Go.RowKit (Below)
section
variable {P : Program} {w0 w : World} {G : Gh} {H : AH}

def goI (n : Nat) : AV := .int .i64 n

-- ---------------------------------------------------------------- len
def lenSl (x : AV) : Option AV :=
  match x with
  | .nils => some (goI 0)
  | .sl _ _ es => some (goI es.length)
  | .osl _ _ n _ => some (goI n)
  | _ => none
def lenStr (x : AV) : Option AV :=
  match x with
  | .str s => some (goI s.length)
  | _ => none
def lenMap (x : AV) (H : AH) : Option AV := (ments x H).map fun es => goI es.length
def alen (P : Program) (t : TypeId) (x : AV) (H : AH) : Option AV :=
  match P.underlying t with
  | some .string => lenStr x
  | some (.slice _) => lenSl x
  | some (.map _ _) => lenMap x H
  | some (.array n _) => some (goI n)
  | _ => none
theorem alen_sound (hr : HRel w0 G H w) {t ty : TypeId} {ts : Array TypeId} {x r : AV} {vx : Value} (h : alen P t x H = some r) (hx : VRel G x vx) (ht : ts[0]? = some t) :
    ∃ v, (Builtin.len_ ts ty #[vx]).run P w = .ok v w ∧ VRel G r v := by
  unfold alen at h
  split at h
  · rename_i hu
    unfold lenStr at h
    split at h
    · cases h; cases hx
      refine ⟨_, ?_, .int _ _⟩
      rotate_left
      · simp only [Builtin.len_, ht, Sem.run_bind, run_underlying hu, Result.andThen_ok, goInt, Sem.run_pure, List.getElem?_toArray, List.getElem?_cons_zero]; rfl
    · cases h
  · rename_i hu
    unfold lenSl at h
    split at h
    · cases h; cases hx
      exact ⟨_, by simp [Builtin.len_, ht, run_underlying hu, goInt], .int _ _⟩
    · cases h; cases hx
      exact ⟨_, by simp [Builtin.len_, ht, run_underlying hu, goInt], .int _ _⟩
    · cases h; cases hx
      exact ⟨_, by simp [Builtin.len_, ht, run_underlying hu, goInt], .int _ _⟩
    · cases h
  · rename_i hu
    simp only [lenMap, Option.map_eq_some_iff] at h
    obtain ⟨es, hes, rfl⟩ := h
    unfold ments at hes
    split at hes
    · cases hes; cases hx
      exact ⟨_, by simp [Builtin.len_, ht, run_underlying hu, goInt], .int _ _⟩
    · rename_i r
      split at hes
      · rename_i es' clock ho
        cases hes
        cases hx with
        | map hb =>
          obtain ⟨ces, h3, h4⟩ := map_block hr ho hb
          have hl : ces.size = es.length := by simpa using h4.1
          refine ⟨.int .i64 es.length, ?_, .int _ _⟩
          simp [Builtin.len_, ht, run_underlying hu, goInt, run_getObj (P := P) h3 (by intro c t f; simp), hl]
      · cases hes
    · cases hes
  · rename_i n e hu
    cases h
    exact ⟨.int .i64 n, by simp [Builtin.len_, ht, run_underlying hu, goInt], .int _ _⟩
  · cases h

-- ---------------------------------------------------------------- min, max
def amin2 (x y : AV) : Option AV :=
  match x, y with
  | .int k a, .int _ b => some (.int k (if b < a then b else a))
  | _, _ => none
def amax2 (x y : AV) : Option AV :=
  match x, y with
  | .int k a, .int _ b => some (.int k (if b > a then b else a))
  | _, _ => none
theorem amin_sound {ts : Array TypeId} {ty : TypeId} {x y r : AV} {vx vy : Value} (h : amin2 x y = some r) (hx : VRel G x vx) (hy : VRel G y vy) : ∃ v, (Builtin.min_ ts ty #[vx, vy]).run P w = .ok v w ∧ VRel G r v := by
  unfold amin2 at h
  split at h
  · cases h; cases hx; cases hy
    exact ⟨_, by simp [Builtin.min_, Builtin.min2], .int _ _⟩
  · cases h
theorem amax_sound {ts : Array TypeId} {ty : TypeId} {x y r : AV} {vx vy : Value} (h : amax2 x y = some r) (hx : VRel G x vx) (hy : VRel G y vy) : ∃ v, (Builtin.max_ ts ty #[vx, vy]).run P w = .ok v w ∧ VRel G r v := by
  unfold amax2 at h
  split at h
  · cases h; cases hx; cases hy
    exact ⟨_, by simp [Builtin.max_, Builtin.max2], .int _ _⟩
  · cases h

-- ---------------------------------------------------------------- complex numbers
def areal : AV → Option AV
  | .cplx k re _ => some (.float k re)
  | _ => none
def aimag : AV → Option AV
  | .cplx k _ im => some (.float k im)
  | _ => none
def acplx (x y : AV) : Option AV :=
  match x, y with
  | .float k re, .float k' im => if k = k' then some (.cplx k re im) else none
  | _, _ => none
theorem areal_sound {ts : Array TypeId} {ty : TypeId} {x r : AV} {vx : Value} (h : areal x = some r) (hx : VRel G x vx) : ∃ v, (Builtin.real_ ts ty #[vx]).run P w = .ok v w ∧ VRel G r v := by
  unfold areal at h
  split at h
  · cases h; cases hx; exact ⟨_, rfl, .float _ _⟩
  · cases h
theorem aimag_sound {ts : Array TypeId} {ty : TypeId} {x r : AV} {vx : Value} (h : aimag x = some r) (hx : VRel G x vx) : ∃ v, (Builtin.imag_ ts ty #[vx]).run P w = .ok v w ∧ VRel G r v := by
  unfold aimag at h
  split at h
  · cases h; cases hx; exact ⟨_, rfl, .float _ _⟩
  · cases h
theorem acplx_sound {ts : Array TypeId} {ty : TypeId} {x y r : AV} {vx vy : Value} (h : acplx x y = some r) (hx : VRel G x vx) (hy : VRel G y vy) : ∃ v, (Builtin.complex_ ts ty #[vx, vy]).run P w = .ok v w ∧ VRel G r v := by
  unfold acplx at h
  split at h
  · split at h
    · rename_i hk
      subst hk
      cases h; cases hx; cases hy
      refine ⟨_, ?_, .cplx _ _ _⟩
      rotate_left
      · show (if _ = _ then _ else _ : Sem Value).run P w = _
        rw [if_pos rfl]; rfl
    · cases h
  · cases h

-- ---------------------------------------------------------------- delete
def mdel (kk : KK) (m k : AV) (H : AH) : Option AH :=
  match m with
  | .map r => match H.get r with
    | some (.map es clock) =>
      if keyIs kk k then
        (afind kk k es 0).map fun f =>
          match f with
          | some (i, _) => H.put r (.map (es.eraseIdx i) clock)
          | none => H.put r (.map es clock)
      else none
    | _ => none
  | _ => none
def amdel (P : Program) (t : TypeId) (m k : AV) (H : AH) : Option AH :=
  match P.underlying t with
  | some (.map kt _) => (keyKind P kt).bind fun kk => mdel kk m k H
  | _ => none
theorem amdel_sound (hr : HRel w0 G H w) {t ty : TypeId} {ts : Array TypeId} {m k : AV} {vm vk : Value} {H' : AH} (h : amdel P t m k H = some H') (hm : VRel G m vm) (hk : VRel G k vk) (hts : ts[0]? = some t) :
    ∃ w', (Builtin.delete_ ts ty #[vm, vk]).run P w = .ok (.tuple #[]) w' ∧ HRel w0 G H' w' ∧ H'.next = H.next := by
  unfold amdel at h
  split at h
  case h_2 => cases h
  rename_i kt et ht
  simp only [Option.bind_eq_some_iff] at h
  obtain ⟨kk, hkk, h⟩ := h
  unfold mdel at h
  split at h
  case h_2 => cases h
  rename_i r
  split at h
  case h_2 => cases h
  rename_i es clock ho
  split at h
  case isFalse => cases h
  rename_i hki
  simp only [Option.map_eq_some_iff] at h
  obtain ⟨f, hf, rfl⟩ := h
  cases hm with
  | map hb =>
    rename_i b
    obtain ⟨ces, h3, h4⟩ := map_block hr ho hb
    obtain ⟨r', hfind, hr'⟩ := afind_sound (P := P) (w := w) hkk hk h4 hf
    have hck := fun bb => checkKey_sound (P := P) (w := w) hkk hki hk bb
    have hlt : b < w.heap.size := (Array.getElem?_eq_some_iff.1 h3).1
    have hg := run_getObj (P := P) h3 (by intro c t f; simp)
    have hl : ces.size = es.length := by simpa using h4.1
    cases f with
    | none =>
      simp only at hr'
      subst hr'
      refine ⟨_, ?_, hr.setObj (y := .map es clock) (obj := .map ces clock) ho hb (by intro c t f; rw [h3]; simp) ?_, rfl⟩
      · unfold Builtin.delete_
        simp only [Sem.run_bind, hts, run_underlying ht, Result.andThen_ok, hg, hck, hfind, List.getElem?_toArray, List.getElem?_cons_zero, List.getElem?_cons_succ]
        rw [run_setObj (P := P) h3 (by intro c t f; simp)]
        simp
      · exact ⟨ces, by simp [hlt], hl, fun i e c he hc => h4.2 i e c he (by simpa using hc)⟩
    | some p =>
      obtain ⟨j, a⟩ := p
      obtain ⟨u, rfl, hu, e, c, he, hc, _, hsame, heq⟩ := hr'
      have hj : j < ces.size := by have := (List.getElem?_eq_some_iff.1 hc).1; simpa using this
      refine ⟨_, ?_, hr.setObj (y := .map (es.eraseIdx j) clock) (obj := .map (ces.eraseIdxIfInBounds j) clock) ho hb (by intro c t f; rw [h3]; simp) ?_, rfl⟩
      · unfold Builtin.delete_
        simp only [Sem.run_bind, hts, run_underlying ht, Result.andThen_ok, hg, hck, hfind, List.getElem?_toArray, List.getElem?_cons_zero, List.getElem?_cons_succ]
        rw [run_setObj (P := P) h3 (by intro c t f; simp)]
        simp
      · have he1 : (ces.eraseIdxIfInBounds j).toList = ces.toList.eraseIdx j := by
          simp [Array.eraseIdxIfInBounds, hj]
        have key : ∀ (i : Nat) (e : AEnt) (c : MapEntry), (es.eraseIdx j)[i]? = some e → (ces.toList.eraseIdx j)[i]? = some c → VRel G e.key c.key ∧ VRel G e.val c.val ∧ c.born = e.born := by
          intro i e' c' he' hc'
          rw [List.getElem?_eraseIdx] at he' hc'
          split at he'
          · rename_i hi; rw [if_pos hi] at hc'; exact h4.2 _ _ _ he' hc'
          · rename_i hi; rw [if_neg hi] at hc'; exact h4.2 _ _ _ he' hc'
        refine ⟨ces.eraseIdxIfInBounds j, by simp [hlt], ?_, fun i e' c' he' hc' => key i e' c' he' (by rw [← he1, Array.getElem?_toList]; exact hc')⟩
        have : (ces.eraseIdxIfInBounds j).toList.length = (es.eraseIdx j).length := by
          rw [he1, List.length_eraseIdx, List.length_eraseIdx]; simp [hl]
        rw [Array.length_toList] at this; exact this

-- ---------------------------------------------------------------- a string's bytes, new
def bytesOf (s : List UInt8) : List AV := s.map fun b => .int .u8 b.toNat
def strBytes (x : AV) : Option AV :=
  match x with
  | .str s => some (.sl .stuck 1 (bytesOf s))
  | _ => none
theorem strBytes_sound (hr : HRel w0 G H w) {src dst e : TypeId} {x r : AV} {vx : Value} (h : strBytes x = some r) (hx : VRel G x vx) (hs : P.underlying src = some .string) (hd : P.underlying dst = some (.slice e))
    (he : P.underlying e = some (.int .u8)) {K : AV → AH → Prop} (k : K r H) : ∃ v w', (convert src dst vx).run P w = .ok v w' ∧ Post w0 G H K v w' := by
  unfold strBytes at h
  split at h
  case h_2 => cases h
  rename_i s
  cases h; cases hx
  have hsz : (⟨s.toArray⟩ : ByteArray).size = s.length := by simp [ByteArray.size]
  have hrun := run_bytes_of_string (P := P) w src dst e ⟨s.toArray⟩ hs hd he
  refine ⟨_, _, hrun, ?_⟩
  have hrd := hr.drew
  have hcell : ∀ (i : Nat) (a : AV) (j : Nat) (b : AV), (bytesOf s)[i]? = some a → a.cells[j]? = some b → ∃ v, (bytesRow ⟨s.toArray⟩ (grownCap w (⟨s.toArray⟩ : ByteArray).size 0 e))[i * 1 + j]? = some v ∧ VRel G b v := by
    intro i a j b ha hb
    simp only [bytesOf, List.getElem?_map, Option.map_eq_some_iff] at ha
    obtain ⟨u, hu, rfl⟩ := ha
    have hj : j = 0 ∧ b = .int .u8 u.toNat := by
      cases j with
      | zero => simp [AV.cells] at hb; exact ⟨rfl, hb.symm⟩
      | succ j => simp [AV.cells] at hb
    obtain ⟨rfl, rfl⟩ := hj
    have hi := (List.getElem?_eq_some_iff.1 hu).1
    refine ⟨.int .u8 u.toNat, ?_, .int _ _⟩
    simp only [bytesRow, Nat.mul_one, Nat.add_zero]
    rw [Array.getElem?_append_left (by simpa using hi)]
    simp [hu]
  obtain ⟨G', g1, g2, _, _, _, g3⟩ := newSl_sound (w := w.drew) hrd (t := e) (sz := 1) (es := bytesOf s) (cap := grownCap w s.length 0 e)
    (by intro i a ha; simp only [bytesOf, List.getElem?_map, Option.map_eq_some_iff] at ha; obtain ⟨u, _, rfl⟩ := ha; rfl) hcell (by simp [bytesOf]; exact grownCap_ge' w _ _ e)
    ((bytesRow ⟨s.toArray⟩ (grownCap w (⟨s.toArray⟩ : ByteArray).size 0 e)).size, (bytesRow ⟨s.toArray⟩ (grownCap w (⟨s.toArray⟩ : ByteArray).size 0 e)).size + 1)
  refine ⟨G', H, _, g1, Nat.le_refl _, g2, ?_, k⟩
  have := g3 .stuck trivial
  rw [hsz]
  simpa [bytesOf] using this

def bytesStr1 : List AV → Option (List UInt8)
  | [] => some []
  | .int .u8 n :: r => (bytesStr1 r).map fun l => UInt8.ofNat n.toNat :: l
  | _ => none
def bytesStr (x : AV) : Option AV :=
  match x with
  | .nils => some (.str [])
  | .sl _ 1 es => (bytesStr1 es).map .str
  | _ => none
theorem bytesStr1uspec : ∀ (es : List AV) (l : List UInt8), bytesStr1 es = some l → ∃ ns : List Int, es = ns.map (AV.int .u8) ∧ l = ns.map fun n => UInt8.ofNat n.toNat
  | [], l, h => by simp only [bytesStr1, Option.some.injEq] at h; subst h; exact ⟨[], rfl, rfl⟩
  | e :: es, l, h => by
    unfold bytesStr1 at h
    split at h
    · rename_i he; cases he
    · rename_i n r he
      cases he
      simp only [Option.map_eq_some_iff] at h
      obtain ⟨l', hl', rfl⟩ := h
      obtain ⟨ns, h1, h2⟩ := bytesStr1uspec _ _ hl'
      exact ⟨n :: ns, by simp [h1], by simp [h2]⟩
    · cases h
theorem foldl_push (f : Int → UInt8) : ∀ (ns : List Int) (r : ByteArray), (ns.foldl (fun (r : ByteArray) n => r.push (f n)) r) = ⟨r.data ++ (ns.map f).toArray⟩
  | [], r => by simp
  | n :: ns, r => by simp only [List.foldl_cons, List.map_cons]; rw [foldl_push f ns]; simp [ByteArray.push]
theorem bytesStr_sound (hr : HRel w0 G H w) {src dst e : TypeId} {x r : AV} {vx : Value} (h : bytesStr x = some r) (hx : VRel G x vx) (hs : P.underlying src = some (.slice e)) (hd : P.underlying dst = some .string)
    (he : P.underlying e = some (.int .u8)) : ∃ v, (convert src dst vx).run P w = .ok v w ∧ VRel G r v := by
  unfold bytesStr at h
  split at h
  · cases h; cases hx
    refine ⟨.string ⟨([] : List UInt8).toArray⟩, ?_, .str _⟩
    rw [run_convert_bytes_string w src dst e none 0 0 hs he hd]
    rfl
  · rename_i g es
    simp only [Option.map_eq_some_iff] at h
    obtain ⟨l, hl, rfl⟩ := h
    obtain ⟨ns, rfl, rfl⟩ := bytesStr1uspec _ _ hl
    cases hx with
    | sl vals hc hg hs' h1 h2 =>
      rename_i b off cap
      refine ⟨_, ?_, .str _⟩
      have hload := run_loadCells_list (P := P) w ⟨b, off, none⟩ (ns.map (Value.int .u8)) (fun j v hj => by
        simp only [List.getElem?_map, Option.map_eq_some_iff] at hj
        obtain ⟨n, hn, rfl⟩ := hj
        have e1 : (ns.map (AV.int .u8))[j]? = some (.int .u8 n) := by simp [hn]
        have e2 := hr.im _ _ _ (h1 j _ 0 _ e1 rfl)
        have e3 := h2 j _ 0 _ e1 rfl
        rw [Addr.add_lit]
        simp only [Nat.mul_one, Nat.add_zero] at e2
        rw [e2]
        generalize vals j 0 = u at e3
        cases e3; rfl)
      simp only [List.length_map] at hload
      rw [run_convert_bytes_string w src dst e _ _ _ hs he hd, run_bytesToString w _ _ _ ns (by simpa using hload), foldl_push]
      have he0 : ByteArray.empty.data = #[] := rfl
      rw [he0]; simp
  · cases h
end
end Go.Va
