/- The engine, part 20: ranges over texts and maps. -/
import Derived.Test.YtklebhffmnmeoaaDoorEr
import Derived.RangeFuncRecord
namespace Go.Ab
open Go

section
variable {P : Program} {T : Tab} {E : Emb} {H : AHeap} {w : World}

theorem arange_sound (hT : TabOK P T) (hR : R T.ng E H w) {t : TypeId} {x x' : Value} {r : Option Value × AHeap} (hx : VR E H.dom x x') (h : arange T H t x = some r) : ∃ v, r.1 = some v ∧ DoesV P T.ng E H w (Instr.range t x') v r.2 := by
  have mk : ∀ {H : AHeap} {w : World} (hr : H.next < BG) (hR : R T.ng E H w) (o : AObj) (O : Obj), OR (upd E H.next ⟨w.heap.size, 0, 0, 0⟩) (H.push o).dom H.next (w.alloc O) o → ∀ (s : Sem Value), s.run P w = .ok (.pointer (some ⟨w.heap.size, 0, none⟩)) (w.alloc O) →
      DoesV P T.ng E H w s (.pointer (some ⟨H.next, 0, none⟩)) (H.push o) := by
    intro H w hr hR o O hO s hs
    obtain ⟨h1, h2⟩ := hR.new hr o O 0 0 hO
    refine ⟨_, _, _, hs, ?_, h1, h2, dom_push hr⟩
    have := VR.ptr (E := upd E H.next ⟨w.heap.size, 0, 0, 0⟩) (n := (H.push o).dom) (b := H.next) (o := 0) (push_dom hr)
    simpa using this
  unfold arange at h
  split at h
  · rename_i i hi
    split at h
    · rename_i s hd
      obtain ⟨ov, H1⟩ := r
      obtain ⟨hr, hv, hH⟩ := anew_some h
      subst hv hH
      have e := hx.string; subst e
      refine ⟨_, rfl, mk hr hR (.strIter s 0) (.stringIter s 0) ⟨by rw [upd_same]; exact heap_push_new _ _, by rw [upd_same], by rw [upd_same]⟩ _ ?_⟩
      simp [Instr.range, run_und hT hi hd rfl]
    · rename_i k e hd
      obtain ⟨ov, H1⟩ := r
      obtain ⟨hr, hv, hH⟩ := anew_some h
      subst hv hH
      have e := hx.nilMap; subst e
      refine ⟨_, rfl, mk hr hR (.mapIter none 0 #[] 0) (.mapIter none 0 #[] 0) ⟨fun r h => (by cases h), by rw [upd_same]; exact heap_push_new _ _, by rw [upd_same], by rw [upd_same]⟩ _ ?_⟩
      simp [Instr.range, run_und hT hi hd rfl]
    · rename_i k e m hd
      split at h
      · rename_i es clock hm
        obtain ⟨ov, H1⟩ := r
        obtain ⟨hr, hv, hH⟩ := anew_some h
        subst hv hH
        obtain ⟨hb, e⟩ := hx.mapp; subst e
        obtain ⟨es', g1, g2, g3⟩ := hR.obj m _ hm
        refine ⟨_, rfl, mk hr hR (.mapIter (some m) clock #[] clock) (.mapIter (some (E m).blk) clock #[] clock) ⟨fun r h => (by cases h; exact dom_push hr _ hb), ?_, by rw [upd_same], by rw [upd_same]⟩ _ ?_⟩
        · rw [upd_same]
          simp only [Option.map_some, upd_dom hr _ _ _ hb]
          exact heap_push_new _ _
        · simp [Instr.range, run_und hT hi hd rfl, getObj, Sem.run, g1, Result.andThen]
      · cases h
    · cases h
  · cases h

theorem put_eq {w : World} {l : Nat} {O x : Obj} (h : w.heap[l]? = some x) : (w.putObj l O).heap[l]? = some O := by
  have : l < w.heap.size := by
    rcases Nat.lt_or_ge l w.heap.size with hl | hl
    · exact hl
    · rw [Array.getElem?_eq_none hl] at h; cases h
  simp [World.putObj, Array.getElem?_setIfInBounds, this]

theorem me_filter {n : Dom} {f : Nat → Bool} : ∀ (es : List MapEntry) (es' : List MapEntry), ME E n es es'.toArray → ME E n (es.filter fun e => f e.born) (es'.filter fun e => f e.born).toArray
  | [], es', h => by
    have : es' = [] := List.eq_nil_of_length_eq_zero (by simpa using h.1.symm)
    subst this
    exact h
  | e :: es, [], h => absurd h.1 (by simp)
  | e :: es, e' :: es', h => by
    obtain ⟨e2, h1, h2, h3, h4, h5⟩ := h.2 0 e rfl
    simp at h1
    subst h1
    have ht : ME E n es es'.toArray := ⟨by have := h.1; simpa using this, fun j x hx => by
      obtain ⟨x', g1, g2⟩ := h.2 (j + 1) x (by simpa using hx)
      exact ⟨x', by simpa using g1, g2⟩⟩
    have ih := me_filter (f := f) es es' ht
    by_cases hf : f e.born = true
    · rw [List.filter_cons_of_pos (by simpa using hf), List.filter_cons_of_pos (by rw [h4]; simpa using hf)]
      refine ⟨by have := ih.1; simpa using this, fun j x hx => ?_⟩
      cases j with
      | zero => simp at hx; subst hx; exact ⟨e', by simp, h2, h3, h4, h5⟩
      | succ j => obtain ⟨x', g1, g2⟩ := ih.2 j x (by simpa using hx); exact ⟨x', by simpa using g1, g2⟩
    · rw [List.filter_cons_of_neg (by simpa using hf), List.filter_cons_of_neg (by rw [h4]; simpa using hf)]
      exact ih

theorem me_all {n : Dom} {f : Nat → Bool} : ∀ (es : List MapEntry) (es' : List MapEntry), ME E n es es'.toArray → (es'.all fun e => f e.born) = (es.all fun e => f e.born)
  | [], es', h => by
    have : es' = [] := List.eq_nil_of_length_eq_zero (by simpa using h.1.symm)
    subst this
    rfl
  | e :: es, [], h => absurd h.1 (by simp)
  | e :: es, e' :: es', h => by
    obtain ⟨e2, h1, h2, h3, h4, h5⟩ := h.2 0 e rfl
    simp at h1
    subst h1
    have ht : ME E n es es'.toArray := ⟨by have := h.1; simpa using this, fun j x hx => by
      obtain ⟨x', g1, g2⟩ := h.2 (j + 1) x (by simpa using hx)
      exact ⟨x', by simpa using g1, g2⟩⟩
    simp only [List.all_cons, h4, me_all (f := f) es es' ht]

theorem anext_sound (hT : TabOK P T) (hR : R T.ng E H w) {x x' : Value} {ty : TypeId} {b : Bool} {r : Option Value × AHeap} (hx : VR E H.dom x x') (h : anext T H x b = some r) : ∃ v, r.1 = some v ∧ DoesV P T.ng E H w (Instr.next x' b ty) v r.2 := by
  unfold anext at h
  rw [hT.prim] at h
  split at h
  · rename_i i
    obtain ⟨hb, rfl⟩ := hx.pointer
    split at h
    · rename_i s pos hi
      split at h
      · rename_i hbt
        subst hbt
        obtain ⟨g1, g2, g3⟩ := hR.obj i _ hi
        rw [g3]
        split at h
        · rename_i hlt
          have hlt : (Int.ofNat pos) < (s.size : Int) := of_decide_eq_true hlt
          have hlt : pos < s.size := by simpa using hlt
          simp only [Prim.real] at h
          cases h
          have := hR.write (w' := w.putObj (E i).blk (.stringIter s (pos + (Utf8.decode s pos).2))) ⟨_, hi, rfl⟩ (.strIter s (pos + (Utf8.decode s pos).2)) (by simp [World.putObj]) (fun b hb => by simp [World.putObj, Array.getElem?_setIfInBounds, Ne.symm hb])
            ⟨put_eq g1, g2, g3⟩ (fun r h => by rw [g1] at h; cases h) ⟨rfl, rfl, rfl⟩
          refine ⟨_, rfl, E, _, _, ?_, .tuple (a' := #[.bool true, .int .i64 (Int.ofNat pos), .int .i32 (Int.ofNat (Utf8.decode s pos).1)]) rfl (fun j hj => ?_), this.1, this.2, by rw [dom_set]; exact Dom.le_refl _⟩
          · simp [Instr.next, getObj, setObj, Sem.run, g1, Result.andThen, hlt, goInt, World.putObj]
          · have : j = 0 ∨ j = 1 ∨ j = 2 := by simp at hj; omega
            rcases this with rfl | rfl | rfl <;> exact .same rfl
        · rename_i hlt
          have hlt : ¬ (Int.ofNat pos) < (s.size : Int) := of_decide_eq_false hlt
          have hlt : ¬ pos < s.size := by simpa using hlt
          cases h
          refine ⟨_, rfl, .here hR (v' := .tuple #[.bool false]) ?_ ?_⟩
          · simp [Instr.next, getObj, Sem.run, g1, Result.andThen, hlt]
          · refine .tuple rfl fun j hj => ?_
            have : j = 0 := by simp at hj; omega
            subst this; exact .same rfl
      · cases h
    · rename_i s1 s2 s3 hi
      split at h
      · cases h
      · rename_i hb2
        have hb2 : b = false := by simpa using hb2
        subst hb2
        obtain ⟨_, g1, g2, g3⟩ := hR.obj i _ hi
        rw [g3]
        cases h
        refine ⟨_, rfl, .here hR (v' := .tuple #[.bool false]) ?_ ?_⟩
        · simp at g1
          simp [Instr.next, getObj, Sem.run, g1, Result.andThen]
        · refine .tuple rfl fun j hj => ?_
          have : j = 0 := by simp at hj; omega
          subst this; exact .same rfl
    · rename_i m since seen last hi
      split at h
      · cases h
      · rename_i hb2
        have hb2 : b = false := by simpa using hb2
        subst hb2
        obtain ⟨_, g1, g2, g3⟩ := hR.obj i _ hi
        rw [g3]
        simp only [Option.map_some] at g1
        split at h
        · rename_i es clock hm
          obtain ⟨es', q1, q2, q3⟩ := hR.obj m _ hm
          have q2' : ME E H.dom es es'.toList.toArray := by simpa using q2
          split at h
          · cases h
          · rename_i hc
            have hsz : es'.isEmpty = es.isEmpty := by
              have := q2.1
              rw [Bool.eq_iff_iff, Array.isEmpty_iff, List.isEmpty_iff, ← Array.size_eq_zero_iff, ← List.length_eq_zero_iff]
              omega
            have hall : (es'.all fun e => decide (e.born ≥ last)) = es.all fun e => Nat.ble last e.born := by
              have := me_all (f := fun b => Nat.ble last b) _ _ q2'
              rw [← this, ← Array.all_toList]
              congr 1
              funext e
              rw [Bool.eq_iff_iff]
              simp [Nat.ble_eq]
            have hc' : (!seen.isEmpty && !es'.isEmpty && es'.all fun e => decide (e.born ≥ last)) = false := by rw [hsz, hall]; exact hc
            have hc2 : ¬ ((¬seen = #[] ∧ ¬es' = #[]) ∧ ∀ (i : Nat) (x : i < es'.size), last ≤ es'[i].born) := by
              intro hh
              have : (!seen.isEmpty && !es'.isEmpty && es'.all fun e => decide (e.born ≥ last)) = true := by
                simp only [Bool.and_eq_true, Bool.not_eq_true', Array.isEmpty_eq_false_iff, Array.all_eq_true, decide_eq_true_eq]
                exact hh
              rw [hc'] at this; cases this
            have hfl := me_filter (f := fun b => !seen.contains b) _ _ q2'
            split at h
            · rename_i hnil
              cases h
              rw [hnil] at hfl
              have hleft : es'.filter (fun e => !seen.contains e.born) = #[] := by
                apply Array.ext'
                rw [Array.toList_filter]
                exact List.eq_nil_of_length_eq_zero (by have := hfl.1; simpa using this.symm)
              refine ⟨_, rfl, .here hR (v' := .tuple #[.bool false]) ?_ ?_⟩
              · have hl2 : es'.filter (fun e => !decide (e.born ∈ seen)) = #[] := by simpa only [Array.contains_eq_mem] using hleft
                have hA : (∀ (a : MapEntry), a ∈ es' → ¬a.born ∈ seen → since ≤ a.born) := fun a ha hs => by
                  have : a ∈ es'.filter (fun e => !decide (e.born ∈ seen)) := by rw [Array.mem_filter]; exact ⟨ha, by simpa using hs⟩
                  rw [hl2] at this; simp at this
                simp [-Array.filter_filter, Instr.next, getObj, Sem.run, g1, q1, Result.andThen, if_neg hc2, hl2, Question.forced, if_pos hA]
              · refine .tuple rfl fun j hj => ?_
                have : j = 0 := by simp at hj; omega
                subst this; exact .same rfl
            · rename_i e hone
              split at h
              · rename_i hborn
                cases h
                rw [hone] at hfl
                obtain ⟨e', p1, p2, p3, p4, p5⟩ := hfl.2 0 e rfl
                have hleft : es'.filter (fun e => !seen.contains e.born) = #[e'] := by
                  apply Array.ext'
                  rw [Array.toList_filter]
                  have h1 := hfl.1
                  simp only [List.size_toArray, List.length_singleton] at h1
                  obtain ⟨z, hz⟩ := List.length_eq_one_iff.1 h1.symm
                  rw [hz] at p1
                  simp at p1
                  rw [hz, p1]
                have hborn' : e'.born < since := by rw [p4]; exact hborn
                have := hR.write (w' := w.putObj (E i).blk (.mapIter (some (E m).blk) since (seen.push e'.born) clock)) ⟨_, hi, rfl⟩ (.mapIter (some m) since (seen.push e.born) clock) (by simp [World.putObj]) (fun b hb => by simp [World.putObj, Array.getElem?_setIfInBounds, Ne.symm hb])
                  ⟨fun r hr => by cases hr; exact ⟨_, hm⟩, by rw [← p4]; exact put_eq g1, g2, g3⟩ (fun r h => by rw [g1] at h; cases h) ⟨rfl, rfl, rfl⟩
                refine ⟨_, rfl, E, _, _, ?_, .tuple (a' := #[.bool true, e'.key, e'.val]) rfl (fun j hj => ?_), this.1, this.2, by rw [dom_set]; exact Dom.le_refl _⟩
                · have hl2 : es'.filter (fun e => !decide (e.born ∈ seen)) = #[e'] := by simpa only [Array.contains_eq_mem] using hleft
                  have he : e' ∈ es' ∧ ¬ e'.born ∈ seen := by
                    have : e' ∈ es'.filter (fun e => !decide (e.born ∈ seen)) := by rw [hl2]; simp
                    rw [Array.mem_filter] at this; exact ⟨this.1, by simpa using this.2⟩
                  have hA : ¬ (∀ (a : MapEntry), a ∈ es' → ¬a.born ∈ seen → since ≤ a.born) := fun h => by have := h e' he.1 he.2; omega
                  have hB : ∃ x, x ∈ es' ∧ ¬x.born ∈ seen ∧ x.born < since := ⟨e', he.1, he.2, hborn'⟩
                  simp [-Array.filter_filter, Instr.next, getObj, setObj, Sem.run, g1, q1, Result.andThen, if_neg hc2, hl2, Question.forced, hborn', World.putObj, if_neg hA, if_pos hB]
                · rw [dom_set]
                  have : j = 0 ∨ j = 1 ∨ j = 2 := by simp at hj; omega
                  rcases this with rfl | rfl | rfl
                  · exact .same rfl
                  · show VR E H.dom e.key e'.key
                    rw [p2]; exact .same p3
                  · exact p5
              · cases h
            · cases h
        · cases h
    · cases h
  · cases h

theorem aentry_sound (hR : R T.ng E H w) {x x' v : Value} (hx : VR E H.dom x x') (h : aentry H x = some v) : DoesV P T.ng E H w (Instr.entry x') v H := by
  unfold aentry at h
  split at h
  · rename_i i
    obtain ⟨hb, rfl⟩ := hx.pointer
    split at h
    · rename_i m since seen stepped hi
      split at h
      · rename_i stamp hst
        split at h
        · rename_i es clock hm
          split at h
          · rename_i hck
            subst hck
            split at h
            · rename_i e he
              cases h
              obtain ⟨_, g1, g2, g3⟩ := hR.obj i _ hi
              rw [g3]
              simp only [Option.map_some] at g1
              obtain ⟨es', q1, q2, q3⟩ := hR.obj m _ hm
              have q2' : ME E H.dom es es'.toList.toArray := by simpa using q2
              have hfl := me_filter (f := fun b => Nat.beq b stamp) _ _ q2'
              have hf1 : (es.filter fun e => Nat.beq e.born stamp)[0]? = some e := by rw [← List.head?_eq_getElem?, List.head?_filter]; exact he
              obtain ⟨e', p1, p2, p3, p4, p5⟩ := hfl.2 0 e hf1
              have hf2 : es'.find? (fun e => e.born == stamp) = some e' := by
                rw [← Array.find?_toList, ← List.head?_filter, List.head?_eq_getElem?]
                have : (es'.toList.filter fun e => e.born == stamp) = es'.toList.filter fun e => Nat.beq e.born stamp := by
                  congr 1
                  funext e
                  rw [Bool.eq_iff_iff, Nat.beq_eq]
                  simp
                rw [this]
                simpa using p1
              refine .here hR (v' := .tuple #[e'.key, e'.val]) ?_ (.tuple rfl fun j hj => ?_)
              · simp [Instr.entry, getObj, Sem.run, g1, q1, Result.andThen, hst, hf2]
              · have : j = 0 ∨ j = 1 := by simp at hj; omega
                rcases this with rfl | rfl
                · show VR E H.dom e.key e'.key
                  rw [p2]; exact .same p3
                · exact p5
            · cases h
          · cases h
        · cases h
      · cases h
    · cases h
  · cases h

theorem acap_sound (hT : TabOK P T) (hR : R T.ng E H w) {t ty : TypeId} {x x' v : Value} (hx : VR E H.dom x x') (h : acap T t x = some v) : DoesV P T.ng E H w (Builtin.cap_ #[t] ty #[x']) v H := by
  unfold acap at h
  split at h
  · rename_i i hi
    split at h
    · rename_i e hd
      cases h
      obtain ⟨e1, _, _⟩ := hx.nilSlice
      subst e1
      exact .here hR (v' := .int .i64 0) (by simp [Builtin.cap_, run_und hT hi hd rfl, goInt]) (.same rfl)
    · rename_i e a l c hd
      cases h
      have : ∃ a' c', x' = .slice a' l c' := by
        cases hx with
        | same h => exact ⟨_, _, rfl⟩
        | slice hb => exact ⟨_, _, rfl⟩
      obtain ⟨a', c', rfl⟩ := this
      exact .here hR (v' := .int .i64 c') (by simp [Builtin.cap_, run_und hT hi hd rfl, goInt]) .top
    · cases h
  · cases h
end
end Go.Ab
