/-
  For contracts: going through a map, in whatever order; lists that grow.
-/
import Derived.Test.YtfldcobcnlgapaaDoorCtMsg
set_option linter.unusedVariables false
set_option linter.unusedSimpArgs false
set_option maxRecDepth 100000
namespace Go.Va
section
variable {H H0 : AH} {i r c : Nat} {es : List AEnt} {seen : List Nat}
theorem nextMap_at (hi : H.get i = some (.mIter (some r) c seen c)) (hr : H.get r = some (.map es c)) (hb : ∀ e ∈ es, e.born < c) {K : AV → AH → Prop}
    (hend : (∀ e ∈ es, e.born ∈ seen) → K (.tup [.bool false]) H) (hgo : ∀ e ∈ es, e.born ∉ seen → K (.tup [.bool true, e.key, e.val]) (H.put i (.mIter (some r) c (seen ++ [e.born]) c))) : nextMap (.iter i) H K := by
  simp only [nextMap, hi, hr]
  refine ⟨?_, ?_⟩
  · cases es with
    | nil => simp
    | cons e es =>
      have : ¬ (e.born ≥ c) := by have := hb e (List.mem_cons_self ..); omega
      simp [this]
  · intro x hx
    simp only [mapLeft, List.mem_append] at hx
    have hall : ∀ l : List AEnt, (∀ e ∈ l, e.born < c) → (l.filter fun e => decide (e.born < c)) = l ∧ (l.filter fun e => decide (e.born ≥ c)) = [] := fun l hl =>
      ⟨List.filter_eq_self.2 fun e he => by simpa using hl e he, List.filter_eq_nil_iff.2 fun e he => by simpa using hl e he⟩
    have h1 := hall (es.filter fun e => !seen.contains e.born) fun e he => hb e ((List.mem_filter.1 he).1)
    rw [h1.1, h1.2] at hx
    rcases hx with hx | hx
    · split at hx
      · rename_i hemp
        simp at hx; subst hx
        refine hend fun e he => ?_
        have := List.isEmpty_iff.1 hemp
        have := List.filter_eq_nil_iff.1 this e he
        simpa using this
      · simp at hx
    · simp only [List.append_nil, List.mem_map, List.mem_filter] at hx
      obtain ⟨e, ⟨he, hn⟩, rfl⟩ := hx
      exact hgo e he (by simpa using hn)
theorem find_born : ∀ (es : List AEnt), (es.map (·.born)).Nodup → ∀ e ∈ es, es.find? (fun x => x.born == e.born) = some e
  | [], _, e, he => by simp at he
  | x :: es, hn, e, he => by
    simp only [List.map_cons, List.nodup_cons] at hn
    rcases List.mem_cons.1 he with rfl | he
    · simp
    · have hne : (x.born == e.born) = false := by
        simp only [beq_eq_false_iff_ne, ne_eq]
        intro h; exact hn.1 (h ▸ List.mem_map_of_mem (f := (·.born)) he)
      rw [List.find?_cons, hne]
      exact find_born es hn.2 e he
theorem entryOf_at (hn : (es.map (·.born)).Nodup) {e : AEnt} (he : e ∈ es) (hi : H.get i = some (.mIter (some r) c (seen ++ [e.born]) c)) (hr : H.get r = some (.map es c)) : entryOf (.iter i) H = some (.tup [e.key, e.val]) := by
  simp [entryOf, hi, hr, find_born es hn e he]
theorem unseen_lt {e : AEnt} (he : e ∈ es) (hs : e.born ∉ seen) : (es.filter fun x => !(seen ++ [e.born]).contains x.born).length < (es.filter fun x => !seen.contains x.born).length := by
  have : (es.filter fun x => !(seen ++ [e.born]).contains x.born) = (es.filter fun x => !seen.contains x.born).filter fun x => !(x.born == e.born) := by
    rw [List.filter_filter]
    congr 1; funext x
    rw [Bool.eq_iff_iff]; simp only [Bool.not_eq_true', Bool.and_eq_true, List.contains_eq_mem, decide_eq_false_iff_not, List.mem_append, List.mem_singleton, not_or, beq_eq_false_iff_ne]
    exact and_comm
  rw [this]
  have hm : e ∈ es.filter fun x => !seen.contains x.born := List.mem_filter.2 ⟨he, by simpa using hs⟩
  exact List.length_filter_lt_length_iff_exists.2 ⟨e, hm, by simp⟩
/-- A loop over a map: each entry is looked at (G: it is as it should be), in some order. -/
theorem mapLoop {b : (List AV → AH → Prop) → List AV → AH → Prop} {st : List AV} (G : AEnt → Prop)
    (body : ∀ (seen : List Nat) (H : AH) (Y : List AV → AH → Prop), i < H.next → r < H.next → Ext H0 H → H.get i = some (.mIter (some r) c seen c) → H.get r = some (.map es c) → (∀ e ∈ es, e.born ∈ seen → G e) →
      (∀ e ∈ es, e.born ∉ seen → ∀ H', H.next ≤ H'.next → Ext H0 H' → H'.get i = some (.mIter (some r) c (seen ++ [e.born]) c) → H'.get r = some (.map es c) → G e → Y st H') → b Y st H) (hn : (es.map (·.born)).Nodup) :
    ∀ (n : Nat) (seen : List Nat) (H : AH), (es.filter fun x => !seen.contains x.born).length = n → i < H.next → r < H.next → Ext H0 H → H.get i = some (.mIter (some r) c seen c) → H.get r = some (.map es c) → (∀ e ∈ es, e.born ∈ seen → G e) → LoopP b st H := by
  intro n
  induction n using Nat.strongRecOn with
  | ind n ih =>
    intro seen H hc hin hrn hx hi hr hg
    refine LoopP.intro (fun s' H' => s' = st ∧ ∃ seen', (es.filter fun x => !seen'.contains x.born).length < n ∧ H.next ≤ H'.next ∧ Ext H0 H' ∧ H'.get i = some (.mIter (some r) c seen' c) ∧ H'.get r = some (.map es c) ∧ ∀ e ∈ es, e.born ∈ seen' → G e) ?_ ?_
    · rintro s' H' ⟨rfl, seen', h1, hn', h2, h3, h4, h5⟩
      exact ih _ h1 seen' H' rfl (Nat.lt_of_lt_of_le hin hn') (Nat.lt_of_lt_of_le hrn hn') h2 h3 h4 h5
    · refine body seen H _ hin hrn hx hi hr hg fun e he hs H' hnn hx' hi' hr' hge => ⟨rfl, seen ++ [e.born], ?_, hnn, hx', hi', hr', ?_⟩
      · rw [← hc]; exact unseen_lt he hs
      · intro e' he' hm
        rcases List.mem_append.1 hm with hm | hm
        · exact hg e' he' hm
        · simp only [List.mem_singleton] at hm
          -- births are their own
          have h1 := find_born es hn e he
          have h2 := find_born es hn e' he'
          rw [hm, h1] at h2; cases h2; exact hge
end

-- ---------------------------------------------------------------- lists that grow
/-- a slice that its maker appends to -/
def IsGrow {α : Type} (sz : Nat) (enc : α → AV) (H0 : AH) (v : AV) (l : List α) (H : AH) : Prop := (v = .nils ∧ l = []) ∨ ∃ c t, v = .sl (.tail c) sz (l.map enc) ∧ H.tok c = some t ∧ H0.next ≤ c ∧ c < H.next
theorem IsGrow.isSl {α : Type} {sz : Nat} {enc : α → AV} {H0 H : AH} {v : AV} {l : List α} (h : IsGrow sz enc H0 v l H) : IsSl sz enc v l := by
  rcases h with h | ⟨c, t, h, _⟩
  · exact .inl h
  · exact .inr ⟨_, h⟩
theorem Ext.newtok {H H' : AH} (h : Ext H H') (l : Nat) : Ext H (H'.newtok l) :=
  ⟨Nat.le_succ_of_le h.next, h.get, fun c hc => by
    simp only [AH.newtok]; have := h.next; rw [if_neg (by omega)]; exact h.tok c hc⟩
theorem Ext.retok {H H' : AH} (h : Ext H H') {c : Nat} (hc : H.next ≤ c) (l : Nat) : Ext H (H'.retok c l) :=
  ⟨Nat.le_succ_of_le h.next, h.get, fun c' hc' => by
    simp only [AH.retok]; have := h.next; rw [if_neg (by omega), if_neg (by omega)]; exact h.tok c' hc'⟩
theorem appK_pure {sz by_ : Nat} {s x : AV} {H : AH} {K : AV → AH → Prop} {r : AV} {H' : AH} (h : appd sz by_ s x H = some (r, H')) (k : K r H') : appK sz by_ s x H K := by
  refine .inl ?_
  rw [h]; exact k
theorem IsGrow.mono {α : Type} {sz : Nat} {enc : α → AV} {H0 H H' : AH} {v : AV} {l : List α} (h : IsGrow sz enc H0 v l H) (hn : H.next ≤ H'.next) (ht : ∀ c, c < H.next → H'.tok c = H.tok c) : IsGrow sz enc H0 v l H' := by
  rcases h with h | ⟨c, t, h1, h2, h3, h4⟩
  · exact .inl h
  · exact .inr ⟨c, t, h1, by rw [ht c h4]; exact h2, h3, Nat.lt_of_lt_of_le h4 hn⟩
theorem IsGrow.appG {α : Type} {sz by_ : Nat} {enc : α → AV} {H0 H : AH} {v : AV} {l xs : List α} {vx : AV} (hg : IsGrow sz enc H0 v l H) (hx : H0.next ≤ H.next) (hxs : IsSl sz enc vx xs) (hb : (2 * (l.length + xs.length) + 1024) * by_ ≤ 281474976710656) (hb2 : l.length + xs.length ≤ 9223372036854775807)
    (hone : (flat (xs.map enc)).all AV.one = true) {K : AV → AH → Prop} (k : ∀ v' H', IsGrow sz enc H0 v' (l ++ xs) H' → H'.get = H.get → H.next ≤ H'.next → (∀ c, c < H0.next → H'.tok c = H.tok c) → K v' H') : appK sz by_ v vx H K := by
  have hsrc : asrc sz vx = some (xs.map enc) := by
    rcases hxs with ⟨rfl, rfl⟩ | ⟨g, rfl⟩
    · rfl
    · simp [asrc]
  rcases hg with ⟨rfl, rfl⟩ | ⟨c, t, rfl, ht, hc, hc2⟩
  · by_cases he : xs = []
    · subst he
      refine appK_pure (r := .nils) (H' := H) (by simp [appd, hsrc]) (k _ _ (.inl ⟨rfl, rfl⟩) rfl (Nat.le_refl _) fun _ _ => rfl)
    · have he' : xs.map enc ≠ [] := by simpa using he
      refine appK_pure (r := .sl (.tail H.next) sz (xs.map enc)) (H' := H.newtok 0) ?_ (k _ _ (.inr ⟨H.next, 0, by simp, by simp [AH.newtok], hx, by simp [AH.newtok]⟩) rfl (by simp [AH.newtok]) fun c hc => ?_)
      · simp only [appd, hsrc, he', if_false, List.length_map]
        simp only [List.length_nil, Nat.zero_add] at hb hb2
        rw [if_pos ⟨hb, hb2⟩]
      · simp only [AH.newtok]; rw [if_neg (by omega)]
  · refine appK_pure (r := .sl (.tail H.next) sz (l.map enc ++ xs.map enc)) (H' := H.retok c t) ?_ (k _ _ (.inr ⟨H.next, t, by simp, by simp [AH.retok], hx, by simp [AH.retok]⟩) rfl (by simp [AH.retok]) fun c' hc' => ?_)
    · simp only [appd, hsrc, ht, List.length_map]
      rw [if_pos ⟨trivial, hb, hb2, hone⟩]
    · simp only [AH.retok]; rw [if_neg (by omega), if_neg (by omega)]
theorem IsGrow.app {α : Type} {sz by_ : Nat} {enc : α → AV} {H0 H : AH} {v : AV} {l xs : List α} {vx : AV} (hg : IsGrow sz enc H0 v l H) (hx : Ext H0 H) (hxs : IsSl sz enc vx xs) (hb : (2 * (l.length + xs.length) + 1024) * by_ ≤ 281474976710656) (hb2 : l.length + xs.length ≤ 9223372036854775807)
    (hone : (flat (xs.map enc)).all AV.one = true) {K : AV → AH → Prop} (k : ∀ v' H', IsGrow sz enc H0 v' (l ++ xs) H' → Ext H0 H' → H'.get = H.get → H.next ≤ H'.next → K v' H') : appK sz by_ v vx H K :=
  hg.appG hx.next hxs hb hb2 hone fun v' H' h1 h2 h3 h4 => k v' H' h1 ⟨Nat.le_trans hx.next h3, fun o ho => by rw [h2]; exact hx.get o ho, fun c hc => (h4 c hc).trans (hx.tok c hc)⟩ h2 h3
theorem flat_one {α : Type} {enc : α → AV} {xs : List α} (h : ∀ x ∈ xs, (enc x).cells.all AV.one = true) : (flat (xs.map enc)).all AV.one = true := by
  simp only [flat, List.all_eq_true, List.mem_flatMap, List.mem_map] at *
  rintro a ⟨e, ⟨x, hx, rfl⟩, ha⟩
  exact h x hx a ha
theorem buildSl_one (sz : Nat) (x : AV) (hk : x.known = true) (hl : x.cells.length = sz) : buildSl sz 1 [(0, x)] = some (.sl .full sz [x]) := by
  simp [buildSl, litOk, hk, hl]
end Go.Va
