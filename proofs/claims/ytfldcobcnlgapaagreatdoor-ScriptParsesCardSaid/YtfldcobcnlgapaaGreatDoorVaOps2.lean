/-
  One operation of a region, over the plain view: it is what the machine does.
-/
import Derived.Test.YtfldcobcnlgapaaGreatDoorVaOps
set_option linter.unusedVariables false
set_option linter.unusedSimpArgs false
set_option linter.unnecessarySimpa false
namespace Go.Va
open Go.RowKit (Below)
section
variable {P : Program} {w0 w : World} {G : Gh} {H : AH} {N : Nat} {ρ : Env} {a : Act} {ct : Table}

theorem opok_same {s : Sem Value} (hr : HRel w0 G H w) {r : AV} {K : AV → AH → Prop} (hs : ∃ v, s.run P w = .ok v w ∧ VRel G r v) (k : K r H) :
    OpOk P ((do pure (Next.value (← s)) : Sem Next).run P w) (Post w0 G H K) := by
  obtain ⟨v, h1, h2⟩ := hs
  simp only [Sem.run_bind, h1, Result.andThen_ok, Sem.run_pure, OpOk]
  exact Post.same hr h2 k
theorem opok_mem {s : Sem Value} {K : AV → AH → Prop} (hs : ∃ v w', s.run P w = .ok v w' ∧ Post w0 G H K v w') :
    OpOk P ((do pure (Next.value (← s)) : Sem Next).run P w) (Post w0 G H K) := by
  obtain ⟨v, w', h1, h2⟩ := hs
  simp only [Sem.run_bind, h1, Result.andThen_ok, Sem.run_pure, OpOk]
  exact h2
theorem opok_unit {s : Sem Unit} {K : AV → AH → Prop} {H' : AH} (hs : ∃ w', s.run P w = .ok () w' ∧ HRel w0 G H' w' ∧ H'.next = H.next) (k : K nothing H') :
    OpOk P ((do s; pure Next.skip : Sem Next).run P w) (Post w0 G H K) := by
  obtain ⟨w', h1, h2, h3⟩ := hs
  simp only [Sem.run_bind, h1, Result.andThen_ok, Sem.run_pure, OpOk]
  exact ⟨G, H', nothing, .refl _ _, by omega, h2, .tup rfl (fun i a v h => by simp at h), k⟩

theorem acv_sound (hr : HRel w0 G H w) {src dst : TypeId} {x r : AV} {vx : Value} (h : acv P src dst x = some r) (hx : VRel G x vx) {K : AV → AH → Prop} (k : K r H) :
    ∃ v w', (convert src dst vx).run P w = .ok v w' ∧ Post w0 G H K v w' := by
  unfold acv at h
  split at h
  · rename_i e hs hd
    split at h
    · rename_i he; exact strBytes_sound hr h hx hs hd he k
    · cases h
  · rename_i e hs hd
    split at h
    · rename_i he
      obtain ⟨v, h1, h2⟩ := bytesStr_sound (P := P) hr h hx hs hd he
      exact ⟨v, w, h1, Post.same hr h2 k⟩
    · cases h
  · obtain ⟨v, h1, h2⟩ := aconv_sound (P := P) (w := w) h hx
    exact ⟨v, w, h1, Post.same hr h2 k⟩

theorem nilck_sound {x r : AV} {vx : Value} (h : nilck x = some r) (hx : VRel G x vx) : ∃ ad, vx = .pointer (some ad) ∧ r = x := by
  unfold nilck at h
  split at h
  · cases h; cases hx; exact ⟨_, rfl, rfl⟩
  · cases h; cases hx; exact ⟨_, rfl, rfl⟩
  · cases h

theorem vs_list {l : List AV} {vs : Array Value} (hs : vs.size = l.length) (hv : ∀ (i : Nat) (a : AV) (v : Value), l[i]? = some a → vs[i]? = some v → VRel G a v) :
    ∃ us : List Value, vs = us.toArray ∧ us.length = l.length ∧ ∀ (i : Nat) (a : AV) (v : Value), l[i]? = some a → us[i]? = some v → VRel G a v :=
  ⟨vs.toList, by simp, by simpa using hs, fun i a v h1 h2 => hv i a v h1 (by simpa using h2)⟩
theorem vs1 {x : AV} {vs : Array Value} (hs : vs.size = [x].length) (hv : ∀ (i : Nat) (a : AV) (v : Value), [x][i]? = some a → vs[i]? = some v → VRel G a v) : ∃ v, vs = #[v] ∧ VRel G x v := by
  obtain ⟨us, rfl, h2, h3⟩ := vs_list hs hv
  match us, h2 with
  | [v], _ => exact ⟨v, rfl, h3 0 x v rfl rfl⟩
theorem vs2 {x y : AV} {vs : Array Value} (hs : vs.size = [x, y].length) (hv : ∀ (i : Nat) (a : AV) (v : Value), [x, y][i]? = some a → vs[i]? = some v → VRel G a v) :
    ∃ v u, vs = #[v, u] ∧ VRel G x v ∧ VRel G y u := by
  obtain ⟨us, rfl, h2, h3⟩ := vs_list hs hv
  match us, h2 with
  | [v, u], _ => exact ⟨v, u, rfl, h3 0 x v rfl rfl, h3 1 y u rfl rfl⟩

theorem abuiltin_sound (hr : HRel w0 G H w) {b : Builtin} {ts : Array TypeId} {ty : TypeId} {cs : Array Bool} {args : List AV} {vs : Array Value} {K : AV → AH → Prop} (h : abuiltin P b ts.toList args H K)
    (hs : vs.size = args.length) (hv : ∀ (i : Nat) (a : AV) (v : Value), args[i]? = some a → vs[i]? = some v → VRel G a v) : OpOk P ((builtin b ts ty cs vs).run P w) (Post w0 G H K) := by
  unfold abuiltin at h
  split at h
  · rename_i t x ht
    obtain ⟨v, rfl, hx⟩ := vs1 hs hv
    obtain ⟨r, h1, h2⟩ := bnd_ex h
    exact opok_same hr (alen_sound (ty := ty) hr h1 hx (by rw [← Array.getElem?_toList, ht]; rfl)) h2
  · rename_i t1 t2 s x ht
    obtain ⟨v, u, rfl, hx, hy⟩ := vs2 hs hv
    have hts : ts = #[t1, t2] := by rw [← Array.toArray_toList (xs := ts), ht]
    subst hts
    have key : ∀ {e ux} (hu1 : P.underlying t1 = some (.slice e)) (hu2 : P.underlying t2 = some ux) (hnot : (∃ e', ux = .slice e') ∨ ux = .string) (hel : elemOk P e = true)
        (h : appK (P.cellsOf e) (P.bytesOf e) s x H K), ∃ v' w', (Builtin.append_ #[t1, t2] ty #[v, u]).run P w = .ok v' w' ∧ Post w0 G H K v' w' := by
      intro e ux hu1 hu2 hnot hel h
      rcases h with h | h
      · obtain ⟨r, h1, h2⟩ := bnd_ex h
        exact append_sound (ty := ty) hr hu1 hu2 hnot hel h1 hx hy h2
      · exact appo_sound (ty := ty) hr hu1 hu2 hnot hel h hx hy
    unfold aappend at h
    split at h
    · rename_i e e' hu1 hu2
      split at h
      · rename_i hel; exact opok_mem (key hu1 hu2 (.inl ⟨_, rfl⟩) hel h)
      · exact h.elim
    · rename_i e hu1 hu2
      split at h
      · rename_i hel; exact opok_mem (key hu1 hu2 (.inr rfl) hel h)
      · exact h.elim
    · rename_i e ki hu1 hu2
      split at h
      · rename_i hel
        split at h
        · rename_i z hz; exact opok_mem (appz_sound (ty := ty) hr hu1 hu2 hel hz h hx hy)
        · exact h.elim
      · exact h.elim
    · exact h.elim
  · rename_i t x ht
    obtain ⟨v, rfl, hx⟩ := vs1 hs hv
    obtain ⟨r, h1, h2⟩ := bnd_ex h
    exact opok_same hr (acap_sound (ty := ty) h1 hx (by rw [← Array.getElem?_toList, ht]; rfl)) h2
  · rename_i t t' d s ht
    obtain ⟨v, u, rfl, hx, hy⟩ := vs2 hs hv
    obtain ⟨r, h1, h2⟩ := bnd_ex h
    exact opok_mem (copy_sound (ty := ty) hr (by rw [← Array.getElem?_toList, ht]; rfl) h1 hx hy h2)
  · rename_i t x ht
    obtain ⟨v, rfl, hx⟩ := vs1 hs hv
    obtain ⟨r, h1, h2⟩ := bnd_ex h
    exact opok_mem (clear_sound (ty := ty) (nothing' := nothing) hr (by rw [← Array.getElem?_toList, ht]; rfl) h1 hx rfl h2)
  · obtain ⟨v, u, rfl, hx, hy⟩ := vs2 hs hv
    obtain ⟨r, h1, h2⟩ := bnd_ex h
    exact opok_same hr (amin_sound h1 hx hy) h2
  · obtain ⟨v, u, rfl, hx, hy⟩ := vs2 hs hv
    obtain ⟨r, h1, h2⟩ := bnd_ex h
    exact opok_same hr (amax_sound h1 hx hy) h2
  · obtain ⟨v, rfl, hx⟩ := vs1 hs hv
    obtain ⟨r, h1, h2⟩ := bnd_ex h
    exact opok_same hr (areal_sound h1 hx) h2
  · obtain ⟨v, rfl, hx⟩ := vs1 hs hv
    obtain ⟨r, h1, h2⟩ := bnd_ex h
    exact opok_same hr (aimag_sound h1 hx) h2
  · obtain ⟨v, u, rfl, hx, hy⟩ := vs2 hs hv
    obtain ⟨r, h1, h2⟩ := bnd_ex h
    exact opok_same hr (acplx_sound h1 hx hy) h2
  · rename_i t t' m k ht
    obtain ⟨v, u, rfl, hx, hy⟩ := vs2 hs hv
    obtain ⟨H', h1, h2⟩ := bnd_ex h
    obtain ⟨w', e1, e2, e3⟩ := amdel_sound (ty := ty) (ts := ts) hr h1 hx hy (by rw [← Array.getElem?_toList, ht]; rfl)
    refine opok_mem ⟨_, w', e1, G, H', nothing, .refl _ _, by omega, e2, .tup rfl (fun i a v h => by simp at h), h2⟩
  · exact h.elim

theorem acallv_sound {ct : Tab} (hct : ct.Ok w0 P) (hr : HRel w0 G H w) {f : AV} {vf : Value} {args : List AV} {vs : Array Value} {K : AV → AH → Prop} (h : acallv ct f args H K) (hf : VRel G f vf)
    (hs : vs.size = args.length) (hv : ∀ (i : Nat) (a : AV) (v : Value), args[i]? = some a → vs[i]? = some v → VRel G a v) :
    OpOk P ((do let d ← Deferred.ofValue vf vs; invoke d.target d.args : Sem Next).run P w) (Post w0 G H K) := by
  unfold acallv at h
  split at h
  · rename_i g fs cs
    obtain ⟨gg, hg, h⟩ := bnd_ex h
    have hso := hct g gg hg
    cases hf with
    | fn hfs hcs h1 h2 =>
      rename_i first captured
      simp only [Deferred.ofValue, Sem.run_bind, Sem.run_pure, Result.andThen_ok, invoke]
      refine hso _ _ _ h G w _ hr (by simp [hfs, hcs, hs]) fun i x v hx hvv => ?_
      rw [List.getElem?_append, List.getElem?_append] at hx
      rw [Array.getElem?_append, Array.getElem?_append] at hvv
      simp only [Array.size_append, List.length_append, hfs, hs] at hx hvv
      split at hx
      · rename_i hi
        rw [if_pos hi] at hvv
        split at hx
        · rename_i hj; rw [if_pos hj] at hvv; exact h1 _ _ _ hx hvv
        · rename_i hj; rw [if_neg hj] at hvv; exact hv _ _ _ hx hvv
      · rename_i hi; rw [if_neg hi] at hvv; exact h2 _ _ _ hx hvv
  · exact h.elim

theorem aop_sound (hct : ct.Ok w0 P) (hr : HRel w0 G H w) (he : ERelA G N ρ a) {o : Oper} {K : AV → AH → Prop} (h : aop P ct o.op ρ H K) : OpOk P ((execOp a.eval o).run P w) (Post w0 G H K) := by
  obtain ⟨dst, op, ty, pos, after, guard⟩ := o
  unfold aop at h
  simp only at h
  split at h
  · exact Post.same hr (he.ev _) h
  · exact Post.same hr (he.ev _) h
  · rename_i c x y
    obtain ⟨v, h1, h2⟩ := bnd_ex h
    have hc := he.ev c
    unfold pickV at h1
    split at h1
    · rename_i b hb
      rw [hb] at hc
      cases h1
      simp only [execOp]
      generalize a.eval c = vc at hc
      cases hc
      simp only [asBool, Sem.run_bind, Sem.run_pure, Result.andThen_ok, OpOk]
      cases b
      · exact Post.same hr (he.ev y) h2
      · exact Post.same hr (he.ev x) h2
    · cases h1
  · obtain ⟨z, h1, h2⟩ := bnd_ex h
    simp only [zeroCells', Option.bind_eq_some_iff] at h1
    obtain ⟨z', hz, h1⟩ := h1
    split at h1
    · rename_i hk; cases h1; exact opok_mem (alloc_sound hr hz hk h2)
    · cases h1
  · rename_i t x
    obtain ⟨z, h1, h2⟩ := bnd_ex h
    unfold boxCells at h1
    split at h1
    · rename_i hk; cases h1; exact opok_mem (box_sound hr hk (he.ev x) h2)
    · cases h1
  · rename_i t ps
    obtain ⟨v, h1, h2⟩ := bnd_ex h
    obtain ⟨e1, e2⟩ := he.evP ps
    have := abuild_sound (P := P) (w := w) h1 e1 e2
    have e3 : (ps.toList.map fun x => (x.1, a.eval x.2)).toArray = ps.map fun (i, x) => (i, a.eval x) := by rw [← Array.toList_map]
    rw [e3] at this
    exact opok_same hr this h2
  · rename_i t n ps
    obtain ⟨v, h1, h2⟩ := bnd_ex h
    obtain ⟨e1, e2⟩ := he.evP ps
    have := abuildSl_sound hr h1 e1 e2 h2
    have e3 : (ps.toList.map fun x => (x.1, a.eval x.2)).toArray = ps.map fun (i, x) => (i, a.eval x) := by rw [← Array.toList_map]
    rw [e3] at this
    exact opok_mem this
  · obtain ⟨v, h1, h2⟩ := bnd_ex h
    exact opok_same hr (aload_sound hr h1 (he.ev _)) h2
  · obtain ⟨H', h1, h2⟩ := bnd_ex h
    exact opok_unit (astore_sound hr h1 (he.ev _) (he.ev _)) h2
  · rename_i x
    obtain ⟨v, h1, h2⟩ := bnd_ex h
    obtain ⟨ad, h3, rfl⟩ := nilck_sound h1 (he.ev x)
    simp only [execOp, h3, Sem.run_pure, OpOk]
    exact Post.same hr (h3 ▸ he.ev x) h2
  · rename_i op t x y yt
    obtain ⟨v, h1, h2⟩ := bnd_ex h
    obtain ⟨⟨u, e1, e2⟩, e3⟩ := abino_sound (P := P) (w := w) (ox := x) h1 (he.ev x) (he.ev y) (fun c hc => by subst hc; exact ⟨rfl, rfl⟩)
    refine opok_same hr ⟨u, ?_, e2⟩ h2
    simp only [Sem.run_bind, e3, Result.andThen_ok, e1]
  · obtain ⟨v, h1, h2⟩ := bnd_ex h
    exact opok_same hr (aun_sound h1 (he.ev _)) h2
  · obtain ⟨v, h1, h2⟩ := bnd_ex h
    exact opok_mem (acv_sound hr h1 (he.ev _) h2)
  · rename_i t x
    obtain ⟨v, h1, h2⟩ := bnd_ex h
    refine opok_same hr ?_ h2
    unfold aiface at h1
    split at h1
    · cases h1
    · rename_i u hu hn
      cases h1
      refine ⟨_, ?_, .iface (he.ev x)⟩
      simp only [Instr.makeInterface, Sem.run_bind, run_underlying hn, Result.andThen_ok]
      rfl
    · cases h1
  · rename_i fn fs cs
    simp only [execOp]
    obtain ⟨a1, a2⟩ := he.evs fs
    obtain ⟨b1, b2⟩ := he.evs cs
    exact opok_same hr ⟨_, rfl, .fn a1 b1 a2 b2⟩ h
  · obtain ⟨⟨r, H'⟩, h1, h2⟩ := bnd_ex h
    exact opok_mem (make_sound hr h1 (he.ev _) (he.ev _) h2)
  · exact opok_mem (makeMap_sound hr _ h)
  · obtain ⟨v, h1, h2⟩ := bnd_ex h
    exact opok_same hr (aslice_sound h1 (he.ev _) (he.evO _) (he.evO _) (he.evO _)) h2
  · obtain ⟨v, h1, h2⟩ := bnd_ex h
    exact opok_same hr (afield_sound h1 (he.ev _)) h2
  · obtain ⟨v, h1, h2⟩ := bnd_ex h
    exact opok_same hr (afld_sound h1 (he.ev _)) h2
  · obtain ⟨v, h1, h2⟩ := bnd_ex h
    exact opok_same hr (aidxA_sound h1 (he.ev _) (he.ev _)) h2
  · obtain ⟨v, h1, h2⟩ := bnd_ex h
    exact opok_same hr (aidx_sound h1 (he.ev _) (he.ev _)) h2
  · obtain ⟨v, h1, h2⟩ := bnd_ex h
    exact opok_same hr (alookup_sound hr h1 (he.ev _) (he.ev _)) h2
  · obtain ⟨H', h1, h2⟩ := bnd_ex h
    exact opok_unit (amput_sound hr h1 (he.ev _) (he.ev _) (he.ev _)) h2
  · obtain ⟨H', h1, h2⟩ := bnd_ex h
    exact opok_unit (amput_sound hr h1 (he.ev _) (he.ev _) (he.ev _)) h2
  · obtain ⟨⟨r, H'⟩, h1, h2⟩ := bnd_ex h
    exact opok_mem (arange_sound hr h1 (he.ev _) h2)
  · rename_i it s
    split at h
    · rename_i hs
      subst hs
      obtain ⟨⟨r, H'⟩, h1, h2⟩ := bnd_ex h
      exact opok_mem (nextStr_sound hr h1 (he.ev _) _ h2)
    · rename_i hs
      have : s = false := by simpa using hs
      subst this
      exact opok_mem (nextMap_sound hr h (he.ev _) _)
  · obtain ⟨v, h1, h2⟩ := bnd_ex h
    exact opok_same hr (entryOf_sound hr h1 (he.ev _)) h2
  · rename_i t i
    obtain ⟨v, h1, h2⟩ := bnd_ex h
    refine opok_same hr ?_ h2
    unfold aextract at h1
    split at h1
    · rename_i vs ht
      have := he.ev t
      rw [ht] at this
      generalize a.eval t = vt at this
      cases this with
      | tup hs hv =>
        rename_i us
        have hi := (List.getElem?_eq_some_iff.1 h1).1
        have hu : us[i]? = some (us[i]'(by omega)) := Array.getElem?_eq_getElem _
        exact ⟨_, by simp only [Instr.extract, hu, Sem.run_pure], hv i _ _ h1 hu⟩
    · cases h1
  · rename_i c
    obtain ⟨callee, args, argTypes⟩ := c
    simp only at h
    split at h
    · rename_i b
      simp only [execOp, resolve, Sem.run_bind, Sem.run_pure, Result.andThen_ok, invoke]
      obtain ⟨e1, e2⟩ := he.evs args
      exact abuiltin_sound hr h e1 e2
    · rename_i f
      simp only [execOp, resolve]
      obtain ⟨e1, e2⟩ := he.evs args
      refine acallv_sound (ct := bif isFn f then ct.st else ct.dy) ?_ hr h (he.ev f) e1 e2
      cases isFn f
      · exact hct.2
      · exact hct.1
    · exact h.elim
  · exact h.elim
end
end Go.Va
