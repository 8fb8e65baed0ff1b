/-
  Maps, over the plain view: look up, update, delete; going through a map, in whatever order; going through a string.
-/
import Derived.Test.YtfldcobcnlgapaaGreatDoorVaMem4
set_option linter.unusedVariables false
set_option linter.unusedSimpArgs false
set_option linter.unnecessarySimpa false
namespace Go.Va
open Go.RowKit (Below)

inductive K1 where
  | int | str | bool
  deriving DecidableEq
inductive KK where
  | one (k : K1)
  | rows (ks : List K1)
def same1 : K1 → AV → AV → Option Bool
  | .int, .int j a, .int k b => if j = k then some (a == b) else none
  | .str, .str a, .str b => some (a == b)
  | .bool, .bool a, .bool b => some (a == b)
  | _, _, _ => none
def sameL : List K1 → List AV → List AV → Option Bool
  | [], [], [] => some true
  | k :: ks, x :: xs, y :: ys =>
    match same1 k x y with
    | some true => sameL ks xs ys
    | some false => if xs.length = ks.length ∧ ys.length = ks.length then some false else none
    | none => none
  | _, _, _ => none
def keySame : KK → AV → AV → Option Bool
  | .one k, x, y => same1 k x y
  | .rows ks, .agg xs, .agg ys => sameL ks xs ys
  | _, _, _ => none
/-- a key's own form -/
def keyIs : KK → AV → Bool
  | .one .int, .int _ _ => true
  | .one .str, .str _ => true
  | .one .bool, .bool _ => true
  | .rows ks, .agg xs => xs.length == ks.length
  | _, _ => false

def kind1 (P : Program) (t : TypeId) : Option K1 :=
  match P.underlying t with
  | some (.int _) => some .int
  | some .string => some .str
  | some .bool => some .bool
  | _ => none
def kindL (P : Program) : Nat → List Field → Option (List K1)
  | _, [] => some []
  | n, f :: fs => if f.offset = n ∧ f.name ≠ "_" then (kind1 P f.type).bind fun k => (kindL P (n + 1) fs).map (k :: ·) else none
def keyKind (P : Program) (t : TypeId) : Option KK :=
  match P.underlying t with
  | some (.struct fs) => if P.stoodInHeld t then none else (kindL P 0 fs.toList).map .rows
  | _ => (kind1 P t).map .one

section
variable {P : Program} {w0 w : World} {G : Gh} {H : AH}

theorem same1usound {t : TypeId} {k : K1} (hk : kind1 P t = some k) {x y : AV} {vx vy : Value} {b : Bool} (h : same1 k x y = some b) (hx : VRel G x vx) (hy : VRel G y vy) (d : Nat) :
    (Op.equalIn (d + 1) t vx vy).run P w = .ok b w ∧ (∀ n, Instr.sameBits n vx vy = b) ∧ ∃ ty, P.underlying t = some ty ∧ Desc.isAgg ty = false ∧ ∀ b', Instr.sameNow ty vx vy = some b' → b' = b := by
  unfold kind1 at hk
  unfold same1 at h
  split at h
  · split at h
    · rename_i hj; subst hj
      cases h; cases hx; cases hy
      split at hk <;> cases hk
      rename_i j ht
      refine ⟨by simp [Op.equalIn, run_underlying ht], fun n => by simp [Instr.sameBits], _, ht, rfl, fun b' hb => by simp [Instr.sameNow] at hb; exact hb.symm⟩
    · cases h
  · cases h; cases hx; cases hy
    split at hk <;> cases hk
    rename_i ht
    refine ⟨by simp [Op.equalIn, run_underlying ht, beq_toListBytes], fun n => by simp [Instr.sameBits, beq_toListBytes], _, ht, rfl, fun b' hb => by simp [Instr.sameNow, beq_toListBytes] at hb; exact hb.symm⟩
  · cases h; cases hx; cases hy
    split at hk <;> cases hk
    rename_i ht
    refine ⟨by simp [Op.equalIn, run_underlying ht], fun n => by simp [Instr.sameBits], _, ht, rfl, fun b' hb => by simp [Instr.sameNow] at hb; exact hb.symm⟩
  · cases h

theorem kind1upart {t : TypeId} {k : K1} (hk : kind1 P t = some k) {vs : Array Value} {i : Nat} {v : Value} (hv : vs[i]? = some v) : (part t vs i).run P w = .ok v w := by
  unfold kind1 at hk
  split at hk <;> cases hk <;> (rename_i ht; rw [run_part ht]; simp [Desc.isAgg, hv])

theorem sameL_sound (d : Nat) : ∀ (fs : List Field) (ks : List K1) (n : Nat) (xs ys : List AV) (vx vy : Array Value) (b : Bool), kindL P n fs = some ks → sameL ks xs ys = some b →
    vx.size = n + xs.length → vy.size = n + ys.length → (∀ (i : Nat) (a : AV) (v : Value), xs[i]? = some a → vx[n + i]? = some v → VRel G a v) → (∀ (i : Nat) (a : AV) (v : Value), ys[i]? = some a → vy[n + i]? = some v → VRel G a v) →
    (Op.eqFields (d + 1) vx vy fs).run P w = .ok b w ∧ ∀ m, (((vx.toList.drop n).zip (vy.toList.drop n)).all fun p => Instr.sameBits m p.1 p.2) = b
  | [], ks, n, xs, ys, vx, vy, b, hk, h, hsx, hsy, hx, hy => by
    simp only [kindL, Option.some.injEq] at hk
    subst hk
    match xs, ys, h with
    | [], [], h =>
      simp only [sameL, Option.some.injEq] at h
      subst h
      refine ⟨by simp [Op.eqFields], fun m => ?_⟩
      rw [List.drop_eq_nil_of_le (by simp at hsx ⊢; omega)]
      simp
    | [], _ :: _, h => simp [sameL] at h
    | _ :: _, _, h => simp [sameL] at h
  | f :: fs, ks, n, xs, ys, vx, vy, b, hk, h, hsx, hsy, hx, hy => by
    unfold kindL at hk
    split at hk
    · rename_i hf
      obtain ⟨hoff, hname⟩ := hf
      simp only [Option.bind_eq_some_iff, Option.map_eq_some_iff] at hk
      obtain ⟨k, hk1, ks', hk2, rfl⟩ := hk
      match xs, ys, h with
      | x :: xs, y :: ys, h =>
        simp only [List.length_cons] at hsx hsy
        have hvx : vx[n]? = some (vx[n]'(by omega)) := Array.getElem?_eq_getElem _
        have hvy : vy[n]? = some (vy[n]'(by omega)) := Array.getElem?_eq_getElem _
        have r1 := hx 0 x _ rfl hvx
        have r2 := hy 0 y _ rfl hvy
        have hdx : vx.toList.drop n = (vx[n]'(by omega)) :: vx.toList.drop (n + 1) := by
          rw [List.drop_eq_getElem_cons (by simp; omega)]; simp
        have hdy : vy.toList.drop n = (vy[n]'(by omega)) :: vy.toList.drop (n + 1) := by
          rw [List.drop_eq_getElem_cons (by simp; omega)]; simp
        unfold sameL at h
        split at h
        · rename_i hs
          obtain ⟨e1, e2, _⟩ := same1usound (P := P) (w := w) hk1 hs r1 r2 d
          obtain ⟨g1, g2⟩ := sameL_sound d fs ks' (n + 1) xs ys vx vy b hk2 h (by omega) (by omega)
            (fun i a v ha hv => hx (i + 1) a v (by simpa using ha) (by rw [← hv]; congr 1; omega)) (fun i a v ha hv => hy (i + 1) a v (by simpa using ha) (by rw [← hv]; congr 1; omega))
          refine ⟨?_, fun m => by rw [hdx, hdy]; simp only [List.zip_cons_cons, List.all_cons, e2 m, g2 m, Bool.true_and]⟩
          unfold Op.eqFields
          rw [if_pos hname]
          simp only [Sem.run_bind, hoff, kind1upart (P := P) (w := w) hk1 hvx, kind1upart (P := P) (w := w) hk1 hvy, Result.andThen_ok, e1]
          simpa using g1
        · rename_i hs
          split at h
          · cases h
            obtain ⟨e1, e2, _⟩ := same1usound (P := P) (w := w) hk1 hs r1 r2 d
            refine ⟨?_, fun m => by rw [hdx, hdy]; simp only [List.zip_cons_cons, List.all_cons, e2 m, Bool.false_and]⟩
            unfold Op.eqFields
            rw [if_pos hname]
            simp only [Sem.run_bind, hoff, kind1upart (P := P) (w := w) hk1 hvx, kind1upart (P := P) (w := w) hk1 hvy, Result.andThen_ok, e1]
            simp
          · cases h
        · cases h
      | [], _, h => simp [sameL] at h
      | _ :: _, [], h => simp [sameL] at h
    · cases hk

/-- Two keys, compared as the machine does. -/
theorem keySame_sound {t : TypeId} {k : KK} (hk : keyKind P t = some k) {x y : AV} {vx vy : Value} {b : Bool} (h : keySame k x y = some b) (hx : VRel G x vx) (hy : VRel G y vy) :
    (Op.equal t vx vy).run P w = .ok b w ∧ (b = true → Instr.sameBits 10000 vx vy = true) ∧ ∃ ty, P.underlying t = some ty ∧ ∀ b', Instr.sameNow ty vx vy = some b' → b' = b := by
  unfold keyKind at hk
  split at hk
  · rename_i fs ht
    split at hk
    · cases hk
    · rename_i hst
      simp only [Option.map_eq_some_iff] at hk
      obtain ⟨ks, hks, rfl⟩ := hk
      unfold keySame at h
      split at h
      · rename_i e; cases e
      · rename_i ks' xs ys e
        cases e
        cases hx with
        | agg s1 h1 =>
          cases hy with
          | agg s2 h2 =>
            rename_i v1 v2
            obtain ⟨e1, e2⟩ := sameL_sound (P := P) (w := w) (G := G) 9998 fs.toList ks 0 xs ys v1 v2 b hks h (by omega) (by omega)
              (fun i a v ha hv => h1 i a v ha (by simpa using hv)) (fun i a v ha hv => h2 i a v ha (by simpa using hv))
            have hf : P.fieldsOf t = fs := by simp [Program.fieldsOf, ht]
            refine ⟨?_, fun hb => ?_, _, ht, fun b' hb => by simp [Instr.sameNow] at hb⟩
            · show (Op.equalIn (9999 + 1) t (.agg v1) (.agg v2)).run P w = _
              rw [run_equalIn_struct w 9999 t v1 v2 (by rw [hf]; exact ht) (by simpa using hst), hf]
              exact e1
            · have hl : xs.length = ys.length := by
                clear e1 e2 h1 h2 s1 s2 hks
                induction ks generalizing xs ys with
                | nil =>
                  match xs, ys, h with
                  | [], [], _ => rfl
                  | [], _ :: _, h => simp [sameL] at h
                  | _ :: _, _, h => simp [sameL] at h
                | cons k ks ih =>
                  match xs, ys, h with
                  | x :: xs, y :: ys, h =>
                    unfold sameL at h
                    split at h
                    · simp [ih xs ys h]
                    · split at h
                      · rename_i hh; simp [hh.1, hh.2]
                      · cases h
                    · cases h
                  | [], _, h => simp [sameL] at h
                  | _ :: _, [], h => simp [sameL] at h
              show Instr.sameBits (9999 + 1) (.agg v1) (.agg v2) = true
              have := e2 9999
              simp only [List.drop_zero] at this
              simp only [Instr.sameBits, Bool.and_eq_true, beq_iff_eq]
              refine ⟨by omega, ?_⟩
              rw [← hb, ← this]
      · cases h
  · rename_i hn
    simp only [Option.map_eq_some_iff] at hk
    obtain ⟨k1, hk1, rfl⟩ := hk
    simp only [keySame] at h
    obtain ⟨e1, e2, ty, e3, _, e4⟩ := same1usound (P := P) (w := w) hk1 h hx hy 9999
    exact ⟨e1, fun hb => by rw [e2 10000]; exact hb, ty, e3, e4⟩

theorem same1ueq {k : K1} {x y : AV} {vx vy : Value} (h : same1 k x y = some true) (hx : VRel G x vx) (hy : VRel G y vy) : vx = vy := by
  unfold same1 at h
  split at h
  · split at h
    · rename_i hj; subst hj; simp only [Option.some.injEq, beq_iff_eq] at h; subst h; cases hx; cases hy; rfl
    · cases h
  · simp only [Option.some.injEq, beq_iff_eq] at h; subst h; cases hx; cases hy; rfl
  · simp only [Option.some.injEq, beq_iff_eq] at h; subst h; cases hx; cases hy; rfl
  · cases h
theorem sameL_eq : ∀ (ks : List K1) (xs ys : List AV) (vx vy : List Value), sameL ks xs ys = some true → vx.length = xs.length → vy.length = ys.length →
    (∀ (i : Nat) (a : AV) (v : Value), xs[i]? = some a → vx[i]? = some v → VRel G a v) → (∀ (i : Nat) (a : AV) (v : Value), ys[i]? = some a → vy[i]? = some v → VRel G a v) → vx = vy
  | [], [], [], vx, vy, _, hx, hy, _, _ => by rw [List.eq_nil_of_length_eq_zero hx, List.eq_nil_of_length_eq_zero hy]
  | k :: ks, x :: xs, y :: ys, vx, vy, h, hx, hy, h1, h2 => by
    match vx, vy, hx, hy with
    | v :: vx, u :: vy, hx, hy =>
      unfold sameL at h
      split at h
      · rename_i hs
        have e := same1ueq hs (h1 0 x v rfl rfl) (h2 0 y u rfl rfl)
        have ih := sameL_eq ks xs ys vx vy h (by simpa using hx) (by simpa using hy) (fun i a v ha hv => h1 (i + 1) a v (by simpa using ha) (by simpa using hv)) (fun i a v ha hv => h2 (i + 1) a v (by simpa using ha) (by simpa using hv))
        rw [e, ih]
      · split at h
        · cases h
        · cases h
      · cases h
  | [], [], _ :: _, _, _, h, _, _, _, _ => by simp [sameL] at h
  | [], _ :: _, _, _, _, h, _, _, _, _ => by simp [sameL] at h
  | _ :: _, [], _, _, _, h, _, _, _, _ => by simp [sameL] at h
  | _ :: _, _ :: _, [], _, _, h, _, _, _, _ => by simp [sameL] at h
theorem keySame_eq {k : KK} {x y : AV} {vx vy : Value} (h : keySame k x y = some true) (hx : VRel G x vx) (hy : VRel G y vy) : vx = vy := by
  unfold keySame at h
  split at h
  · exact same1ueq h hx hy
  · cases hx with
    | agg s1 h1 =>
      cases hy with
      | agg s2 h2 =>
        rename_i v1 v2
        have := sameL_eq (G := G) _ _ _ v1.toList v2.toList h (by simpa using s1) (by simpa using s2) (fun i a v ha hv => h1 i a v ha (by simpa using hv)) (fun i a v ha hv => h2 i a v ha (by simpa using hv))
        rw [Array.ext' this]
  · cases h

/-- A key that may be hashed. -/
theorem checkKey_one {t : TypeId} {k : K1} (hk : kind1 P t = some k) (b : Bool) (n : Nat) (v : Value) : (Instr.checkKey b (n + 1) t v).run P w = .ok () w := by
  unfold kind1 at hk
  split at hk <;> cases hk <;> (rename_i ht; simp [Instr.checkKey, run_underlying ht])
theorem checkKey_rows {t : TypeId} {fs : Array Field} {ks : List K1} (ht : P.underlying t = some (.struct fs)) (hks : kindL P 0 fs.toList = some ks) {vs : Array Value} (hs : ks.length ≤ vs.size) (b : Bool) (m : Nat) :
    (Instr.checkKey b (m + 2) t (.agg vs)).run P w = .ok () w := by
  rw [Instr.checkKey]
  simp only [Sem.run_bind, run_underlying ht, Result.andThen_ok]
  rw [← Array.forIn_toList]
  have key : ∀ (l : List Field) (ks : List K1) (n : Nat), kindL P n l = some ks → n + ks.length ≤ vs.size →
      (forIn l PUnit.unit (fun f (_ : PUnit) => do
        if f.name ≠ "_" then
          let x ← part f.type vs f.offset
          Instr.checkKey b (m + 1) f.type x
          pure (ForInStep.yield PUnit.unit)
        else pure (ForInStep.yield PUnit.unit)) : Sem PUnit).run P w = .ok PUnit.unit w := by
    intro l
    induction l with
    | nil => intro ks n _ _; simp
    | cons f l ih =>
      intro ks n hk hn
      unfold kindL at hk
      split at hk
      · rename_i hf
        obtain ⟨hoff, hname⟩ := hf
        simp only [Option.bind_eq_some_iff, Option.map_eq_some_iff] at hk
        obtain ⟨k, hk1, ks', hk2, rfl⟩ := hk
        simp only [List.length_cons] at hn
        have hv : vs[n]? = some (vs[n]'(by omega)) := Array.getElem?_eq_getElem _
        have := ih ks' (n + 1) hk2 (by omega)
        simp only [List.forIn_cons, Sem.run_bind, Sem.run_ite]
        rw [if_pos hname]
        simp only [Sem.run_bind, hoff, kind1upart (P := P) (w := w) hk1 hv, Result.andThen_ok, checkKey_one (P := P) (w := w) hk1 b m, Sem.run_pure]
        exact this
      · cases hk
  have := key fs.toList ks 0 hks (by omega)
  simp at this ⊢
  rw [this]
  rfl
theorem checkKey_sound {t : TypeId} {k : KK} (hk : keyKind P t = some k) {x : AV} {v : Value} (h : keyIs k x = true) (hx : VRel G x v) (b : Bool) : (Instr.checkKey b 10000 t v).run P w = .ok () w := by
  unfold keyKind at hk
  split at hk
  · rename_i fs ht
    split at hk
    · cases hk
    · simp only [Option.map_eq_some_iff] at hk
      obtain ⟨ks, hks, rfl⟩ := hk
      unfold keyIs at h
      split at h
      all_goals first | (rename_i e; cases e; done) | skip
      · rename_i ks' xs e
        cases e
        simp only [beq_iff_eq] at h
        cases hx with
        | agg s1 h1 => exact checkKey_rows ht hks (by omega) b 9998
      · cases h
  · simp only [Option.map_eq_some_iff] at hk
    obtain ⟨k1, hk1, rfl⟩ := hk
    exact checkKey_one hk1 b 9999 v

-- ---------------------------------------------------------------- finding a key
def afind (kk : KK) (k : AV) : List AEnt → Nat → Option (Option (Nat × AV))
  | [], _ => some none
  | e :: es, i =>
    match keySame kk k e.key with
    | some true => some (some (i, e.val))
    | some false => afind kk k es (i + 1)
    | none => none

/-- Entries, one against the other. -/
def ERel (G : Gh) (es : List AEnt) (ces : List MapEntry) : Prop :=
  ces.length = es.length ∧ ∀ (i : Nat) (e : AEnt) (c : MapEntry), es[i]? = some e → ces[i]? = some c → VRel G e.key c.key ∧ VRel G e.val c.val ∧ c.born = e.born

theorem afind_asking {t : TypeId} {kk : KK} (hk : keyKind P t = some kk) {x : AV} {v : Value} (hx : VRel G x v) : ∀ (es : List AEnt) (ces : List MapEntry) (i : Nat) (r : Option (Nat × AV)), ERel G es ces → afind kk x es i = some r →
    ∃ r', (Instr.findAsking t v ces i).run P w = .ok r' w ∧ (∀ r'', Instr.findNow ((P.underlying t).getD .invalid) v ces i = some r'' → r'' = r') ∧
      match r with
      | none => r' = none
      | some (j, a) => ∃ u, r' = some (j, u) ∧ VRel G a u ∧ i ≤ j ∧ ∃ e c, es[j - i]? = some e ∧ ces[j - i]? = some c ∧ e.val = a ∧ Instr.sameBits 10000 v c.key = true ∧ v = c.key
  | [], ces, i, r, hr, h => by
    have : ces = [] := List.eq_nil_of_length_eq_zero hr.1
    subst this
    simp only [afind, Option.some.injEq] at h
    subst h
    exact ⟨none, by simp [Instr.findAsking], fun r'' h => by simpa [Instr.findNow] using h.symm, rfl⟩
  | e :: es, ces, i, r, hr, h => by
    match ces, hr with
    | c :: ces, hr =>
      obtain ⟨r1, r2, r3⟩ := hr.2 0 e c rfl rfl
      have hr' : ERel G es ces := ⟨by have := hr.1; simpa using this, fun j a b ha hb => hr.2 (j + 1) a b (by simpa using ha) (by simpa using hb)⟩
      unfold afind at h
      split at h
      · rename_i hs
        cases h
        obtain ⟨e1, e2, ty, e3, e4⟩ := keySame_sound (P := P) (w := w) hk hs hx r1
        refine ⟨some (i, c.val), by simp [Instr.findAsking, e1], ?_, c.val, rfl, r2, Nat.le_refl _, e, c, by simp, by simp, rfl, e2 rfl, keySame_eq hs hx r1⟩
        · intro r'' h''
          rw [e3] at h''
          simp only [Instr.findNow, Option.getD_some] at h''
          split at h''
          · simpa using h''.symm
          · rename_i hb; have := e4 false hb; cases this
          · cases h''
      · rename_i hs
        obtain ⟨e1, e2, ty, e3, e4⟩ := keySame_sound (P := P) (w := w) hk hs hx r1
        obtain ⟨r', g1, g2, g3⟩ := afind_asking hk hx es ces (i + 1) r hr' h
        refine ⟨r', by simp [Instr.findAsking, e1, g1], ?_, ?_⟩
        · intro r'' h''
          rw [e3] at h'' g2
          simp only [Instr.findNow, Option.getD_some] at h'' g2
          split at h''
          · rename_i hb; have := e4 true hb; cases this
          · exact g2 r'' h''
          · cases h''
        · cases r with
          | none => exact g3
          | some p =>
            obtain ⟨j, a⟩ := p
            obtain ⟨u, h1, h2, h3, e', c', h4, h5, h6, h7⟩ := g3
            refine ⟨u, h1, h2, by omega, e', c', ?_, ?_, h6, h7⟩
            · rw [show j - i = (j - (i + 1)) + 1 by omega]; simpa using h4
            · rw [show j - i = (j - (i + 1)) + 1 by omega]; simpa using h5
      · cases h
    | [], hr => simp [ERel] at hr

theorem afind_sound {t : TypeId} {kk : KK} (hk : keyKind P t = some kk) {x : AV} {v : Value} (hx : VRel G x v) {es : List AEnt} {ces : List MapEntry} {r : Option (Nat × AV)} (hr : ERel G es ces) (h : afind kk x es 0 = some r) :
    ∃ r', (Instr.findKey t v ces).run P w = .ok r' w ∧
      match r with
      | none => r' = none
      | some (j, a) => ∃ u, r' = some (j, u) ∧ VRel G a u ∧ ∃ e c, es[j]? = some e ∧ ces[j]? = some c ∧ e.val = a ∧ Instr.sameBits 10000 v c.key = true ∧ v = c.key := by
  obtain ⟨r', h1, h2, h3⟩ := afind_asking (P := P) (w := w) hk hx es ces 0 r hr h
  have hu : ∃ ty, P.underlying t = some ty := by
    unfold keyKind at hk
    split at hk
    · rename_i ht; exact ⟨_, ht⟩
    · simp only [Option.map_eq_some_iff, kind1] at hk
      obtain ⟨k1, hk1, _⟩ := hk
      split at hk1
      · rename_i ht; exact ⟨_, ht⟩
      · rename_i ht; exact ⟨_, ht⟩
      · rename_i ht; exact ⟨_, ht⟩
      · cases hk1
  obtain ⟨ty, hty⟩ := hu
  refine ⟨r', ?_, ?_⟩
  · simp only [Instr.findKey, Sem.run_bind, run_underlying hty, Result.andThen_ok]
    rw [hty] at h2
    simp only [Option.getD_some] at h2
    cases hf : Instr.findNow ty v ces 0 with
    | some r'' => simp only [Sem.run_pure]; rw [h2 r'' hf]
    | none => exact h1
  · cases r with
    | none => exact h3
    | some p =>
      obtain ⟨j, a⟩ := p
      obtain ⟨u, g1, g2, g3, e, c, g4, g5, g6, g7⟩ := h3
      exact ⟨u, g1, g2, e, c, by simpa using g4, by simpa using g5, g6, g7⟩

-- ---------------------------------------------------------------- look up
/-- the entries of a map value (nil: none) -/
def ments (m : AV) (H : AH) : Option (List AEnt) :=
  match m with
  | .nilm => some []
  | .map r => match H.get r with
    | some (.map es _) => some es
    | _ => none
  | _ => none
def lookRes (ok : Bool) (zero : AV) : Option (Nat × AV) → AV
  | some (_, v) => if ok then .tup [v, .bool true] else v
  | none => if ok then .tup [zero, .bool false] else zero
def look (kk : KK) (zero m k : AV) (ok : Bool) (H : AH) : Option AV :=
  if keyIs kk k then (ments m H).bind fun es => (afind kk k es 0).map (lookRes ok zero) else none
def alookup (P : Program) (t : TypeId) (m k : AV) (ok : Bool) (H : AH) : Option AV :=
  match P.underlying t with
  | some (.map kt et) => (keyKind P kt).bind fun kk => (azero P et).bind fun z => look kk z m k ok H
  | _ => none

theorem vrel_tup2 {a b : AV} {va vb : Value} (h1 : VRel G a va) (h2 : VRel G b vb) : VRel G (.tup [a, b]) (.tuple #[va, vb]) := by
  refine .tup rfl fun i x v hx hv => ?_
  match i with
  | 0 => simp at hx hv; subst hx; subst hv; exact h1
  | 1 => simp at hx hv; subst hx; subst hv; exact h2
  | i + 2 => simp at hx
theorem vrel_tup3 {a b c : AV} {va vb vc : Value} (h1 : VRel G a va) (h2 : VRel G b vb) (h3 : VRel G c vc) : VRel G (.tup [a, b, c]) (.tuple #[va, vb, vc]) := by
  refine .tup rfl fun i x v hx hv => ?_
  match i with
  | 0 => simp at hx hv; subst hx; subst hv; exact h1
  | 1 => simp at hx hv; subst hx; subst hv; exact h2
  | 2 => simp at hx hv; subst hx; subst hv; exact h3
  | i + 3 => simp at hx

/-- What is known of a map's block. -/
theorem map_block (hr : HRel w0 G H w) {r b clock : Nat} {es : List AEnt} (ho : H.get r = some (.map es clock)) (hm : G.om r = some b) : ∃ ces : Array MapEntry, w.heap[b]? = some (.map ces clock) ∧ ERel G es ces.toList := by
  obtain ⟨_, ces, h1, h2, h3⟩ := hr.obj r _ b ho hm
  exact ⟨ces, h1, by simpa using h2, fun i e c he hc => h3 i e c he (by simpa using hc)⟩

theorem run_getObj {b : Nat} {o : Obj} (h : w.heap[b]? = some o) (hn : ∀ c t f, o ≠ .cells c t f) : (getObj b).run P w = .ok o w := by
  simp only [getObj, Sem.run, h]
  try (cases o <;> first | rfl | exact absurd rfl (hn _ _ _))

theorem alookup_sound (hr : HRel w0 G H w) {t : TypeId} {m k r : AV} {ok : Bool} {vm vk : Value} (h : alookup P t m k ok H = some r) (hm : VRel G m vm) (hk : VRel G k vk) :
    ∃ v, (Instr.lookup t vm vk ok).run P w = .ok v w ∧ VRel G r v := by
  unfold alookup at h
  split at h
  case h_2 => cases h
  rename_i kt et ht
  simp only [Option.bind_eq_some_iff] at h
  obtain ⟨kk, hkk, z, hz, h⟩ := h
  unfold look at h
  split at h
  case isFalse => cases h
  rename_i hki
  simp only [Option.bind_eq_some_iff, Option.map_eq_some_iff] at h
  obtain ⟨es, hes, f, hf, rfl⟩ := h
  obtain ⟨zv, rfl, hzr⟩ := azero_run hz
  have key : ∀ ces : Array MapEntry, ERel G es ces.toList → ∃ v, ((do
      Instr.checkKey ces.isEmpty 10000 kt vk
      match ← Instr.findKey kt vk ces.toList with
      | some (_, v) => do
        let p ← pure (v, true)
        pure (if ok = true then .tuple #[p.1, .bool p.2] else p.1)
      | none => do
        let z ← zeroValue et
        let p ← pure (z, false)
        pure (if ok = true then .tuple #[p.1, .bool p.2] else p.1)) : Sem Value).run P w = .ok v w ∧ VRel G (lookRes ok (aconst zv) f) v := by
    intro ces hrel
    obtain ⟨r', hfind, hr'⟩ := afind_sound (P := P) (w := w) hkk hk hrel hf
    have hck := checkKey_sound (P := P) (w := w) hkk hki hk ces.isEmpty
    simp only [Sem.run_bind, hck, Result.andThen_ok, hfind]
    cases f with
    | none =>
      simp only at hr'
      subst hr'
      cases ok
      · exact ⟨zv, by simp [hzr], .aconst _ _⟩
      · exact ⟨.tuple #[zv, .bool false], by simp [hzr], vrel_tup2 (.aconst _ _) (.bool _)⟩
    | some p =>
      obtain ⟨j, a⟩ := p
      obtain ⟨u, rfl, hu, _⟩ := hr'
      cases ok
      · exact ⟨u, by simp, hu⟩
      · exact ⟨.tuple #[u, .bool true], by simp, vrel_tup2 hu (.bool _)⟩
  unfold ments at hes
  split at hes
  · cases hes; cases hm
    obtain ⟨v, h1, h2⟩ := key #[] ⟨rfl, fun i e c he => by simp at he⟩
    refine ⟨v, ?_, h2⟩
    unfold Instr.lookup
    simp only [Sem.run_bind, run_underlying ht, Result.andThen_ok, Sem.run_pure] at h1 ⊢
    exact h1
  · split at hes
    · rename_i ho
      cases hes
      cases hm with
      | map hb =>
        obtain ⟨ces, h3, h4⟩ := map_block hr ho hb
        obtain ⟨v, h1, h2⟩ := key ces h4
        refine ⟨v, ?_, h2⟩
        unfold Instr.lookup
        simp only [Sem.run_bind, run_underlying ht, Result.andThen_ok, Sem.run_pure, run_getObj (P := P) h3 (by intro c t f; simp)] at h1 ⊢
        exact h1
    · cases hes
  · cases hes

-- ---------------------------------------------------------------- update
def entSet (es : List AEnt) (i : Nat) (k v : AV) : List AEnt := es.modify i fun e => { e with key := k, val := v }
def mput (kk : KK) (m k v : AV) (H : AH) : Option AH :=
  match m with
  | .map r => match H.get r with
    | some (.map es clock) =>
      if keyIs kk k then
        (afind kk k es 0).map fun f =>
          match f with
          | some (i, _) => H.put r (.map (entSet es i k v) clock)
          | none => H.put r (.map (es ++ [⟨k, v, clock⟩]) (clock + 1))
      else none
    | _ => none
  | _ => none
def amput (P : Program) (t : TypeId) (m k v : AV) (H : AH) : Option AH :=
  match P.underlying t with
  | some (.map kt _) => (keyKind P kt).bind fun kk => mput kk m k v H
  | _ => none

/-- A block that holds a map, an iterator: written whole. -/
theorem HRel.setObj (h : HRel w0 G H w) {o b : Nat} {x y : AObj} {obj : Obj} (ho : H.get o = some x) (hm : G.om o = some b) (hnc : ∀ c t f, w.heap[b]? ≠ some (.cells c t f))
    (hy : ORel G b { w with heap := w.heap.setIfInBounds b obj } y) : HRel w0 G (H.put o y) { w with heap := w.heap.setIfInBounds b obj } := by
  obtain ⟨hbase, _⟩ := h.obj o _ b ho hm
  have hblk : ∀ (k : Nat), k ≠ b → ({ w with heap := w.heap.setIfInBounds b obj } : World).heap[k]? = w.heap[k]? := by
    intro k hk
    simp only [Array.getElem?_setIfInBounds]
    rw [if_neg (by omega)]
  have hcell : ∀ (b' i : Nat) v, w.cell? ⟨b', i, none⟩ = some v → b' ≠ b := by
    intro b' i v hv e
    subst e
    unfold World.cell? at hv
    split at hv
    · rename_i c t f hb; exact hnc c t f hb
    · cases hv
  have hcw : ∀ (b' i : Nat), b' ≠ b → ({ w with heap := w.heap.setIfInBounds b obj } : World).cell? ⟨b', i, none⟩ = w.cell? ⟨b', i, none⟩ := fun b' i hb => by simp only [World.cell?, hblk b' hb]
  have hfw : ∀ (b' i : Nat), b' ≠ b → ({ w with heap := w.heap.setIfInBounds b obj } : World).frozen? ⟨b', i, none⟩ = w.frozen? ⟨b', i, none⟩ := fun b' i hb => by simp only [World.frozen?, hblk b' hb]
  have hget : ∀ o' z, (H.put o y).get o' = some z → o' = o ∧ z = y ∨ o' ≠ o ∧ H.get o' = some z := by
    intro o' z hz
    simp only [AH.put] at hz
    split at hz
    · exact .inl ⟨by assumption, by simpa using hz.symm⟩
    · exact .inr ⟨by assumption, hz⟩
  have old : ∀ o' z, (H.put o y).get o' = some z → ∃ z', H.get o' = some z' := by
    intro o' z hz
    rcases hget o' z hz with ⟨rfl, _⟩ | ⟨_, hz⟩
    · exact ⟨_, ho⟩
    · exact ⟨_, hz⟩
  refine ⟨?_, ?_, ?_, ?_, ?_, ?_, ?_, ?_, h.tinj, h.tdom, ?_, h.htok⟩
  · refine h.below.trans ⟨rfl, rfl, rfl, by simp, fun k hk => hblk k (by omega)⟩
  · intro o' z b' hz hb'
    rcases hget o' z hz with ⟨rfl, rfl⟩ | ⟨hn, hz⟩
    · rw [hm] at hb'; cases hb'; exact ⟨hbase, hy⟩
    · obtain ⟨h1, h2⟩ := h.obj o' z b' hz hb'
      exact ⟨h1, h2.of_block (hblk b' fun e => hn (h.inj o' o z x b' hz ho hb' (e ▸ hm)))⟩
  · intro o1 o2 y1 y2 b' h1 h2 hb1 hb2
    obtain ⟨z1, hz1⟩ := old o1 y1 h1
    obtain ⟨z2, hz2⟩ := old o2 y2 h2
    exact h.inj o1 o2 z1 z2 b' hz1 hz2 hb1 hb2
  · intro o' b' hb'; have := h.dom o' b' hb'; exact ⟨this.1, by simpa using this.2⟩
  · intro o' z hz; obtain ⟨z', hz'⟩ := old o' z hz; exact h.hdom o' z' hz'
  · intro b' i v hv
    have h1 := h.im b' i v hv
    rw [hcw b' i (hcell b' i v h1)]; exact h1
  · intro o' z b' i hz hb'; obtain ⟨z', hz'⟩ := old o' z hz; exact h.imo o' z' b' i hz' hb'
  · intro c l b' k s ht hce
    obtain ⟨h1, h3, h4⟩ := h.tok c l b' k s ht hce
    have hb' : b' ≠ b := fun e => h4 o x ho (e ▸ hm)
    refine ⟨h1, fun i hk hs => ?_, fun o' z hz => ?_⟩
    · rw [hcw b' i hb', hfw b' i hb']; exact h3 i hk hs
    · obtain ⟨z', hz'⟩ := old o' z hz; exact h4 o' z' hz'
  · intro c b' k s hce; simpa using h.tblk c b' k s hce

theorem run_setObj {b : Nat} {o o' : Obj} (h : w.heap[b]? = some o) (hn : ∀ c t f, o ≠ .cells c t f) : (setObj b o').run P w = .ok () { w with heap := w.heap.setIfInBounds b o' } := by
  simp only [setObj, Sem.run, h]
  try (cases o <;> first | rfl | exact absurd rfl (hn _ _ _))

theorem amput_sound (hr : HRel w0 G H w) {t : TypeId} {m k v : AV} {vm vk vv : Value} {H' : AH} (h : amput P t m k v H = some H') (hm : VRel G m vm) (hk : VRel G k vk) (hv : VRel G v vv) :
    ∃ w', (Instr.mapUpdate t vm vk vv).run P w = .ok () w' ∧ HRel w0 G H' w' ∧ H'.next = H.next := by
  unfold amput at h
  split at h
  case h_2 => cases h
  rename_i kt et ht
  simp only [Option.bind_eq_some_iff] at h
  obtain ⟨kk, hkk, h⟩ := h
  unfold mput at h
  split at h
  case h_2 => cases h
  rename_i r
  split at h
  case h_2 => cases h
  rename_i es clock ho
  split at h
  case isFalse => cases h
  rename_i hki
  simp only [Option.map_eq_some_iff] at h
  obtain ⟨f, hf, rfl⟩ := h
  cases hm with
  | map hb =>
    rename_i b
    obtain ⟨ces, h3, h4⟩ := map_block hr ho hb
    obtain ⟨r', hfind, hr'⟩ := afind_sound (P := P) (w := w) hkk hk h4 hf
    have hck := checkKey_sound (P := P) (w := w) hkk hki hk false
    have hlt : b < w.heap.size := (Array.getElem?_eq_some_iff.1 h3).1
    have hg := run_getObj (P := P) h3 (by intro c t f; simp)
    cases f with
    | none =>
      simp only at hr'
      subst hr'
      refine ⟨_, ?_, hr.setObj (obj := .map (ces.push ⟨vk, vv, clock⟩) (clock + 1)) ho hb (by intro c t f; rw [h3]; simp) ?_, rfl⟩
      · unfold Instr.mapUpdate
        simp only [Sem.run_bind, run_underlying ht, Result.andThen_ok, hg, hck, hfind]
        exact run_setObj (P := P) h3 (by intro c t f; simp)
      · refine ⟨ces.push ⟨vk, vv, clock⟩, by simp [hlt], by have := h4.1; simp at this ⊢; omega, fun i e c he hc => ?_⟩
        have hl : ces.size = es.length := by simpa using h4.1
        rw [List.getElem?_append] at he
        rw [Array.getElem?_push] at hc
        split at he
        · rw [if_neg (by omega)] at hc
          exact h4.2 i e c he (by simpa using hc)
        · have hi : i = es.length := by
            have := (List.getElem?_eq_some_iff.1 he).1; simp at this; omega
          subst hi
          rw [if_pos (by omega)] at hc
          simp at he hc
          subst he; subst hc
          exact ⟨hk, hv, rfl⟩
    | some p =>
      obtain ⟨j, a⟩ := p
      obtain ⟨u, rfl, hu, e, c, he, hc, _, hsame, heq⟩ := hr'
      have hc' : ces[j]? = some c := by simpa using hc
      refine ⟨_, ?_, hr.setObj (obj := .map (ces.modify j fun e => { e with key := vk, val := vv }) clock) ho hb (by intro c t f; rw [h3]; simp) ?_, rfl⟩
      · unfold Instr.mapUpdate
        simp only [Sem.run_bind, run_underlying ht, Result.andThen_ok, hg, hck, hfind, hc', Option.map_some, Option.getD_some]
        rw [← heq] at hsame ⊢
        simp only [Instr.keyThatStays, hsame, if_true, Sem.run_pure, Result.andThen_ok]
        exact run_setObj (P := P) h3 (by intro c t f; simp)
      · refine ⟨ces.modify j fun e => { e with key := vk, val := vv }, by simp [hlt], by have := h4.1; simp [entSet] at this ⊢; omega, fun i e' c' he' hc'' => ?_⟩
        simp only [entSet, List.getElem?_modify, Option.map_eq_map] at he'
        rw [Array.getElem?_modify] at hc''
        by_cases hij : j = i
        · subst hij
          simp only [if_true, he, hc', Option.map_some, Option.some.injEq] at he' hc''
          subst he'; subst hc''
          exact ⟨hk, hv, (h4.2 j e c he hc).2.2⟩
        · simp only [hij, if_false, Option.map_id'] at he' hc''
          exact h4.2 i e' c' he' (by simpa using hc'')
end
end Go.Va
