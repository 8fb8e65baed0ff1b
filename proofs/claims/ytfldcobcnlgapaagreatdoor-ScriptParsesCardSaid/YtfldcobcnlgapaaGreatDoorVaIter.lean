/-
  Going through strings and maps; new maps; built-in functions on plain values; strings and bytes.
-/
import Derived.Test.YtfldcobcnlgapaaGreatDoorVaMap
set_option linter.unusedVariables false
set_option linter.unusedSimpArgs false
set_option linter.unnecessarySimpa false
namespace Go.Va
open Go.RowKit (Below)
section
variable {P : Program} {w0 w : World} {G : Gh} {H : AH}

/-- A new block that holds what an object holds (a map, an iterator). -/
theorem newWhole (hr : HRel w0 G H w) (x : AObj) (obj : Obj) (hx : ORel (G.setOm H.next w.heap.size) w.heap.size (w.alloc obj) x) :
    ∃ G', Gh.Le H.next G G' ∧ HRel w0 G' (H.add x) (w.alloc obj) ∧ G'.om H.next = some w.heap.size := by
  have hn : G.om H.next = none := hr.om_lt (Nat.le_refl _)
  exact ⟨_, Gh.le_setOm (Nat.le_refl _) hn, (hr.add x).place (o := H.next) (x := x) (by simp [AH.add]) hn obj hx, by simp [Gh.setOm]⟩
theorem alloc_at (w : World) (obj : Obj) : (w.alloc obj).heap[w.heap.size]? = some obj := by
  show (w.heap.push obj)[w.heap.size]? = _; simp
theorem vrel_tup1 {a : AV} {va : Value} (h1 : VRel G a va) : VRel G (.tup [a]) (.tuple #[va]) := by
  refine .tup rfl fun i x v hx hv => ?_
  match i with
  | 0 => simp at hx hv; subst hx; subst hv; exact h1
  | i + 1 => simp at hx

theorem makeMap_sound (hr : HRel w0 G H w) (t : TypeId) {K : AV → AH → Prop} (k : K (.map H.next) (H.add (.map [] 0))) : ∃ v w', (Instr.makeMap t none).run P w = .ok v w' ∧ Post w0 G H K v w' := by
  obtain ⟨G', h1, h2, h3⟩ := newWhole hr (.map [] 0) (.map #[] 0) ⟨#[], alloc_at _ _, rfl, fun i e c he => by simp at he⟩
  exact ⟨_, _, by simp [Instr.makeMap], G', _, _, h1, by simp [AH.add], h2, .map h3, k⟩

-- ---------------------------------------------------------------- iterators
def rangeStr (x : AV) (H : AH) : Option (AV × AH) :=
  match x with
  | .str s => some (.iter H.next, H.add (.sIter s 0))
  | _ => none
def rangeMap (x : AV) (H : AH) : Option (AV × AH) :=
  match x with
  | .nilm => some (.iter H.next, H.add (.mIter none 0 [] 0))
  | .map r => match H.get r with
    | some (.map _ clock) => some (.iter H.next, H.add (.mIter (some r) clock [] clock))
    | _ => none
  | _ => none
def arange (P : Program) (t : TypeId) (x : AV) (H : AH) : Option (AV × AH) :=
  match P.underlying t with
  | some .string => rangeStr x H
  | some (.map _ _) => rangeMap x H
  | _ => none
theorem arange_sound (hr : HRel w0 G H w) {t : TypeId} {x r : AV} {vx : Value} {H' : AH} (h : arange P t x H = some (r, H')) (hx : VRel G x vx) {K : AV → AH → Prop} (k : K r H') :
    ∃ v w', (Instr.range t vx).run P w = .ok v w' ∧ Post w0 G H K v w' := by
  unfold arange at h
  split at h
  · rename_i ht
    unfold rangeStr at h
    split at h
    · rename_i s
      cases h; cases hx
      obtain ⟨G', h1, h2, h3⟩ := newWhole hr (.sIter s 0) (.stringIter ⟨s.toArray⟩ 0) (alloc_at _ _)
      exact ⟨_, _, by simp [Instr.range, run_underlying ht], G', _, _, h1, by simp [AH.add], h2, .iter h3, k⟩
    · cases h
  · rename_i ht
    unfold rangeMap at h
    split at h
    · cases h; cases hx
      obtain ⟨G', h1, h2, h3⟩ := newWhole hr (.mIter none 0 [] 0) (.mapIter none 0 #[] 0) ⟨none, alloc_at _ _, rfl⟩
      exact ⟨_, _, by simp [Instr.range, run_underlying ht], G', _, _, h1, by simp [AH.add], h2, .iter h3, k⟩
    · rename_i r
      split at h
      · rename_i es clock ho
        cases h
        cases hx with
        | map hb =>
          rename_i b
          obtain ⟨ces, h3, h4⟩ := map_block hr ho hb
          have hne : r ≠ H.next := by have := (hr.dom r b hb).1; omega
          obtain ⟨G', h1, h2, h5⟩ := newWhole hr (.mIter (some r) clock [] clock) (.mapIter (some b) clock #[] clock) ⟨some b, alloc_at _ _, b, by simp [Gh.setOm, hne, hb], rfl⟩
          exact ⟨_, _, by simp [Instr.range, run_underlying ht, run_getObj (P := P) h3 (by intro c t f; simp)], G', _, _, h1, by simp [AH.add], h2, .iter h5, k⟩
      · cases h
    · cases h
  · cases h

/-- the next step through a string -/
def nextStr (it : AV) (H : AH) : Option (AV × AH) :=
  match it with
  | .iter o => match H.get o with
    | some (.sIter s pos) =>
      if pos < s.length then
        some (.tup [.bool true, .int .i64 pos, .int .i32 (Utf8.decode ⟨s.toArray⟩ pos).1], H.put o (.sIter s (pos + (Utf8.decode ⟨s.toArray⟩ pos).2)))
      else some (.tup [.bool false], H)
    | _ => none
  | _ => none
theorem nextStr_sound (hr : HRel w0 G H w) {it r : AV} {vi : Value} {H' : AH} (h : nextStr it H = some (r, H')) (hi : VRel G it vi) (t : TypeId) {K : AV → AH → Prop} (k : K r H') :
    ∃ v w', (Instr.next vi true t).run P w = .ok v w' ∧ Post w0 G H K v w' := by
  unfold nextStr at h
  split at h
  case h_2 => cases h
  rename_i o
  split at h
  case h_2 => cases h
  rename_i s pos ho
  cases hi with
  | iter hb =>
    rename_i b
    have h3 : w.heap[b]? = some (.stringIter ⟨s.toArray⟩ pos) := (hr.obj o _ b ho hb).2
    have hg := run_getObj (P := P) h3 (by intro c t f; simp)
    have hsz : (⟨s.toArray⟩ : ByteArray).size = s.length := by simp [ByteArray.size]
    have hlt : b < w.heap.size := (Array.getElem?_eq_some_iff.1 h3).1
    split at h
    · rename_i hp
      cases h
      have hset := run_setObj (P := P) (o' := .stringIter ⟨s.toArray⟩ (pos + (Utf8.decode ⟨s.toArray⟩ pos).2)) h3 (by intro c t f; simp)
      refine ⟨.tuple #[.bool true, .int .i64 pos, .int .i32 (Utf8.decode ⟨s.toArray⟩ pos).1], _, ?_, G, H.put o (.sIter s (pos + (Utf8.decode ⟨s.toArray⟩ pos).2)), _, .refl _ _, Nat.le_refl _, hr.setObj (y := .sIter s (pos + (Utf8.decode ⟨s.toArray⟩ pos).2)) (obj := .stringIter ⟨s.toArray⟩ (pos + (Utf8.decode ⟨s.toArray⟩ pos).2)) ho hb (by intro c t f; rw [h3]; simp) (by simp [ORel, hlt]), vrel_tup3 (.bool _) (.int _ _) (.int _ _), k⟩
      simp [Instr.next, hg, hsz, hp, hset, goInt]
    · rename_i hp
      cases h
      refine ⟨.tuple #[.bool false], w, ?_, Post.same hr (vrel_tup1 (.bool _)) k⟩
      simp [Instr.next, hg, hsz, hp]

/-- The entries that a step through a map may come to: 'none' where it may end. -/
def mapLeft (es : List AEnt) (since : Nat) (seen : List Nat) : List (Option AEnt) :=
  let left := es.filter fun e => !seen.contains e.born
  let old := left.filter (·.born < since)
  let new := left.filter (·.born ≥ since)
  (if old.isEmpty then [none] else []) ++ (old ++ new).map some
/-- what holds of each step that may come next -/
def nextMap (it : AV) (H : AH) (K : AV → AH → Prop) : Prop :=
  match it with
  | .iter o => match H.get o with
    | some (.mIter none _ _ _) => K (.tup [.bool false]) H
    | some (.mIter (some r) since seen last) => match H.get r with
      | some (.map es clock) =>
        (!seen.isEmpty && !es.isEmpty && es.all (fun e => e.born ≥ last)) = false ∧
        ∀ c ∈ mapLeft es since seen, match c with
          | some e => K (.tup [.bool true, e.key, e.val]) (H.put o (.mIter (some r) since (seen ++ [e.born]) clock))
          | none => K (.tup [.bool false]) H
      | _ => False
    | _ => False
  | _ => False

theorem erel_filter {es : List AEnt} {ces : List MapEntry} (h : ERel G es ces) (p : Nat → Bool) : ERel G (es.filter fun e => p e.born) (ces.filter fun e => p e.born) := by
  induction es generalizing ces with
  | nil => have : ces = [] := List.eq_nil_of_length_eq_zero h.1; subst this; exact ⟨rfl, fun i e c he => by simp at he⟩
  | cons e es ih =>
    match ces, h with
    | c :: ces, h =>
      obtain ⟨r1, r2, r3⟩ := h.2 0 e c rfl rfl
      have h' := ih (ces := ces) ⟨by have := h.1; simpa using this, fun j a b ha hb => h.2 (j + 1) a b (by simpa using ha) (by simpa using hb)⟩
      simp only [List.filter_cons, r3]
      split
      · refine ⟨by simp [h'.1], fun i a b ha hb => ?_⟩
        cases i with
        | zero => simp at ha hb; subst ha; subst hb; exact ⟨r1, r2, r3⟩
        | succ i => exact h'.2 i a b (by simpa using ha) (by simpa using hb)
      · exact h'
    | [], h => simp [ERel] at h
theorem erel_append {es fs : List AEnt} {ces cfs : List MapEntry} (h : ERel G es ces) (h' : ERel G fs cfs) : ERel G (es ++ fs) (ces ++ cfs) := by
  refine ⟨by simp [h.1, h'.1], fun i e c he hc => ?_⟩
  rw [List.getElem?_append] at he hc
  rw [h.1] at hc
  split at he
  · rename_i hi; rw [if_pos hi] at hc; exact h.2 i e c he hc
  · rename_i hi; rw [if_neg hi] at hc; exact h'.2 _ e c he hc

theorem isEmpty_of_length {α β : Type} {l : List α} {a : Array β} (h : a.toList.length = l.length) : a.isEmpty = l.isEmpty := by
  rw [Bool.eq_iff_iff, List.isEmpty_iff, Array.isEmpty_iff, ← List.length_eq_zero_iff, ← Array.toList_eq_nil_iff, ← List.length_eq_zero_iff, h]

theorem nextMap_sound (hr : HRel w0 G H w) {it : AV} {vi : Value} {K : AV → AH → Prop} (h : nextMap it H K) (hi : VRel G it vi) (t : TypeId) :
    ∃ v w', (Instr.next vi false t).run P w = .ok v w' ∧ Post w0 G H K v w' := by
  unfold nextMap at h
  split at h
  case h_2 => cases h
  rename_i o
  have hover : VRel G (.tup [.bool false]) (.tuple #[.bool false]) := vrel_tup1 (.bool _)
  cases hi with
  | iter hb =>
    rename_i b
    split at h
    · rename_i since seen last ho
      obtain ⟨cm, h3, h4⟩ := (hr.obj o _ b ho hb).2
      simp only at h4
      subst h4
      exact ⟨.tuple #[.bool false], w, by simp [Instr.next, run_getObj (P := P) h3 (by intro c t f; simp)], Post.same hr hover h⟩
    · rename_i r since seen last ho
      obtain ⟨cm, h3, bm, hbm, rfl⟩ := (hr.obj o _ b ho hb).2
      split at h
      · rename_i es clock hm
        obtain ⟨hne, h⟩ := h
        obtain ⟨ces, h5, h6⟩ := map_block hr hm hbm
        have hg := run_getObj (P := P) h3 (by intro c t f; simp)
        have hgm := run_getObj (P := P) h5 (by intro c t f; simp)
        have hlt : b < w.heap.size := (Array.getElem?_eq_some_iff.1 h3).1
        -- the candidates, one against the other
        let left := ces.filter fun e => !seen.toArray.contains e.born
        let old := left.filter (·.born < since)
        let new := left.filter (·.born ≥ since)
        let cand : Array (Option MapEntry) := (if old.isEmpty then #[none] else #[]) ++ (old ++ new).map some
        have hleft : ERel G (es.filter fun e => !seen.contains e.born) left.toList := by
          have := erel_filter h6 (fun n => !seen.contains n)
          simpa [left] using this
        have hold : ERel G ((es.filter fun e => !seen.contains e.born).filter (·.born < since)) old.toList := by
          have := erel_filter hleft (fun n => decide (n < since))
          simpa [old] using this
        have hnew : ERel G ((es.filter fun e => !seen.contains e.born).filter (·.born ≥ since)) new.toList := by
          have := erel_filter hleft (fun n => decide (n ≥ since))
          simpa [new] using this
        have hboth := erel_append hold hnew
        have hemp : old.isEmpty = ((es.filter fun e => !seen.contains e.born).filter (·.born < since)).isEmpty := by
          exact isEmpty_of_length hold.1
        -- each candidate
        have hcand : ∀ c ∈ cand.toList, match c with
            | none => none ∈ mapLeft es since seen
            | some ce => ∃ e, some e ∈ mapLeft es since seen ∧ VRel G e.key ce.key ∧ VRel G e.val ce.val ∧ ce.born = e.born := by
          intro c hc
          simp only [cand, Array.toList_append, List.mem_append, Array.toList_map, List.mem_map] at hc
          rcases hc with hc | ⟨ce, hce, rfl⟩
          · split at hc
            · rename_i hoe
              simp at hc; subst hc
              simp only [mapLeft]
              rw [if_pos (by rw [← hemp]; exact hoe)]
              simp
            · simp at hc
          · have hce' : ce ∈ old.toList ++ new.toList := by simpa using hce
            obtain ⟨j, hj⟩ := List.getElem?_of_mem hce'
            have hjl := (List.getElem?_eq_some_iff.1 hj).1
            rw [hboth.1] at hjl
            obtain ⟨e1, e2, e3⟩ := hboth.2 j _ ce (List.getElem?_eq_getElem hjl) hj
            refine ⟨_, ?_, e1, e2, e3⟩
            simp only [mapLeft, List.mem_append, List.mem_map]
            exact .inr ⟨_, List.mem_append.1 (List.getElem_mem hjl), rfl⟩
        have hcard : 0 < cand.size := by
          simp only [cand, Array.size_append, Array.size_map]
          split
          · simp; omega
          · rename_i hoe
            have : 0 < old.size := by
              rcases Nat.eq_zero_or_pos old.size with h0 | h0
              · exact absurd (by simp [Array.eq_empty_of_size_eq_zero h0]) hoe
              · exact h0
            omega
        -- the step at a candidate
        have hne' : (!seen.toArray.isEmpty && !ces.isEmpty && ces.all (·.born ≥ last)) = false := by
          have e1 : seen.toArray.isEmpty = seen.isEmpty := by simp
          have e2 : ces.isEmpty = es.isEmpty := by
            exact isEmpty_of_length h6.1
          have e3 : ces.all (fun e => decide (e.born ≥ last)) = es.all fun e => decide (e.born ≥ last) := by
            rw [← Array.all_toList]
            have : ∀ (es : List AEnt) (ces : List MapEntry), ERel G es ces → ces.all (fun e => decide (e.born ≥ last)) = es.all fun e => decide (e.born ≥ last) := by
              intro es
              induction es with
              | nil => intro ces h; have : ces = [] := List.eq_nil_of_length_eq_zero h.1; subst this; rfl
              | cons e es ih =>
                intro ces h
                match ces, h with
                | c :: ces, h =>
                  have r3 := (h.2 0 e c rfl rfl).2.2
                  have h' := ih ces ⟨by have := h.1; simpa using this, fun j a b ha hb => h.2 (j + 1) a b (by simpa using ha) (by simpa using hb)⟩
                  simp only [List.all_cons, r3, h']
                | [], h => simp [ERel] at h
            exact this es ces.toList h6
          rw [e1, e2, e3]; exact hne
        have hstep : ∀ (j : Nat) (w1 : World), HRel w0 G H w1 → w1.heap[b]? = w.heap[b]? → w1.heap.size = w.heap.size → j < cand.size → ∃ v w', ((match cand[j]? with
            | some (some e) => do
              setObj b (.mapIter (some bm) since (seen.toArray.push e.born) clock)
              pure (.tuple #[.bool true, e.key, e.val])
            | some none => pure (.tuple #[.bool false])
            | none => stuck "Next: no such candidate") : Sem Value).run P w1 = .ok v w' ∧ Post w0 G H K v w' := by
          intro j w1 hr1 hw1 hs1 hj
          have hmem : cand[j] ∈ cand.toList := by simp
          have hc := hcand _ hmem
          rw [Array.getElem?_eq_getElem hj]
          cases hcj : cand[j] with
          | none =>
            rw [hcj] at hc
            have := h none hc
            exact ⟨_, _, rfl, Post.same hr1 hover this⟩
          | some ce =>
            rw [hcj] at hc
            obtain ⟨e, hmem, e1, e2, e3⟩ := hc
            have hk := h (some e) hmem
            have h3' : w1.heap[b]? = some (.mapIter (some bm) since seen.toArray last) := by rw [hw1]; exact h3
            have hset := run_setObj (P := P) (o' := .mapIter (some bm) since (seen.toArray.push ce.born) clock) h3' (by intro c t f; simp)
            refine ⟨.tuple #[.bool true, ce.key, ce.val], { w1 with heap := w1.heap.setIfInBounds b (.mapIter (some bm) since (seen.toArray.push ce.born) clock) }, by simp only [Sem.run_bind, hset, Result.andThen_ok, Sem.run_pure], G, H.put o (.mIter (some r) since (seen ++ [e.born]) clock), _, .refl _ _, Nat.le_refl _, hr1.setObj (y := .mIter (some r) since (seen ++ [e.born]) clock) (obj := .mapIter (some bm) since (seen.toArray.push ce.born) clock) ho hb (by intro c t f; rw [h3']; simp) ?_, vrel_tup3 (.bool _) e1 e2, hk⟩
            refine ⟨some bm, ?_, bm, hbm, rfl⟩
            simp [hs1, hlt, e3]
        -- the draw
        have hrun : ∀ (w1 : World), (Instr.next (.pointer (some ⟨b, 0, none⟩)) false t).run P w = ((choose (.mapNext cand.size)) >>= fun j => (match cand[j]? with
            | some (some e) => do
              setObj b (.mapIter (some bm) since (seen.toArray.push e.born) clock)
              pure (.tuple #[.bool true, e.key, e.val])
            | some none => pure (.tuple #[.bool false])
            | none => stuck "Next: no such candidate" : Sem Value)).run P w := by
          intro w1
          simp only [Instr.next, Sem.run_bind, hg, Result.andThen_ok, hgm]
          simp only [Sem.run_ite, hne', Bool.false_eq_true, if_false, Sem.run_bind]
          rfl
        rw [hrun w]
        simp only [Sem.run_bind, run_choose]
        by_cases h1 : cand.size ≤ 1
        · have hf : (Question.mapNext cand.size).forced = true := by simp [Question.forced, h1]
          rw [hf]
          simp only [if_true, Result.andThen_ok]
          exact hstep 0 w hr rfl rfl hcard
        · have hf : (Question.mapNext cand.size).forced = false := by simp [Question.forced]; omega
          rw [hf]
          simp only [Bool.false_eq_true, if_false, Result.andThen_ok]
          exact hstep _ w.drew hr.drew rfl rfl (by simp only [Question.cut]; exact Nat.mod_lt _ hcard)
      · cases h
    · cases h

/-- the entry that the last step came to -/
def entryOf (it : AV) (H : AH) : Option AV :=
  match it with
  | .iter o => match H.get o with
    | some (.mIter (some r) _ seen last) => match H.get r with
      | some (.map es clock) =>
        if clock = last then seen.getLast?.bind fun s => (es.find? (fun e => e.born == s)).map fun e => .tup [e.key, e.val] else none
      | _ => none
    | _ => none
  | _ => none
theorem erel_find {es : List AEnt} {ces : List MapEntry} (h : ERel G es ces) (s : Nat) {e : AEnt} (he : es.find? (fun e => e.born == s) = some e) :
    ∃ c, ces.find? (fun c => c.born == s) = some c ∧ VRel G e.key c.key ∧ VRel G e.val c.val := by
  induction es generalizing ces with
  | nil => simp at he
  | cons x es ih =>
    match ces, h with
    | c :: ces, h =>
      obtain ⟨r1, r2, r3⟩ := h.2 0 x c rfl rfl
      have h' : ERel G es ces := ⟨by have := h.1; simpa using this, fun j a b ha hb => h.2 (j + 1) a b (by simpa using ha) (by simpa using hb)⟩
      simp only [List.find?_cons, r3] at he ⊢
      split at he
      · cases he; exact ⟨c, rfl, r1, r2⟩
      · exact ih h' he
    | [], h => simp [ERel] at h
theorem entryOf_sound (hr : HRel w0 G H w) {it r : AV} {vi : Value} (h : entryOf it H = some r) (hi : VRel G it vi) : ∃ v, (Instr.entry vi).run P w = .ok v w ∧ VRel G r v := by
  unfold entryOf at h
  split at h
  case h_2 => cases h
  rename_i o
  split at h
  case h_2 => cases h
  rename_i r' since seen last ho
  split at h
  case h_2 => cases h
  rename_i es clock hm
  split at h
  case isFalse => cases h
  rename_i hcl
  simp only [Option.bind_eq_some_iff, Option.map_eq_some_iff] at h
  obtain ⟨s, hs, e, he, rfl⟩ := h
  cases hi with
  | iter hb =>
    obtain ⟨cm, h3, bm, hbm, rfl⟩ := (hr.obj o _ _ ho hb).2
    obtain ⟨ces, h5, h6⟩ := map_block hr hm hbm
    obtain ⟨c, hc, e1, e2⟩ := erel_find h6 s he
    refine ⟨_, ?_, vrel_tup2 e1 e2⟩
    have hb' : seen.toArray.back? = some s := by simpa using hs
    have hf : ces.find? (fun c => c.born == s) = some c := by rw [← Array.find?_toList]; exact hc
    simp [Instr.entry, run_getObj (P := P) h3 (by intro c t f; simp), run_getObj (P := P) h5 (by intro c t f; simp), hb', hcl, hf]
end
end Go.Va
