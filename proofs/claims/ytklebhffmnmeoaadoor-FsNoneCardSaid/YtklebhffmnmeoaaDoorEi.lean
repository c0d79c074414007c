/- The engine, part 9: maps; lengths; min, max. -/
import Derived.Test.YtklebhffmnmeoaaDoorEh
namespace Go.Ab
open Go

theorem beq_data (a b : ByteArray) : (a == b) = (a.data == b.data) := rfl
theorem seq_eq (a b : ByteArray) : Prim.real.seq a b = (a == b) := by
  simp only [Prim.real, beqL_eq, beq_data]
  rw [Bool.eq_iff_iff]
  simp only [beq_iff_eq]
  exact ⟨fun h => Array.ext' h, fun h => by rw [h]⟩
theorem bytes_eq {a b : ByteArray} (h : (a == b) = true) : a = b := by
  rw [beq_data] at h
  exact ByteArray.ext (by simpa using h)
theorem bytes_self (a : ByteArray) : (a == a) = true := by rw [beq_data]; simp

section
variable {P : Program} {T : Tab} {E : Emb} {H : AHeap} {w : World}

theorem checkKey_run {b : Bool} {n : Nat} {t : TypeId} {d : TypeDesc} {k : Value} (hu : P.underlying t = some d) (hk : keyDesc d k = true) (w : World) : (Instr.checkKey b (n + 1) t k).run P w = .ok () w := by
  cases d <;> first | (cases k <;> cases hk; done) | skip
  all_goals (cases k <;> first | (cases hk; done) | simp [Instr.checkKey, run_underlying hu])

theorem afind_now {E : Emb} {n : Dom} {d : TypeDesc} {k : Value} (hk : keyDesc d k = true) : ∀ (es : List MapEntry) (es' : List MapEntry) (i : Nat) (r : Option (Nat × Value)), ME E n es es'.toArray → afind k es i = some r →
    ∃ r', Instr.findNow d k es' i = some r' ∧ ((r = none ∧ r' = none) ∨ ∃ j v v', r = some (j, v) ∧ r' = some (j, v') ∧ VR E n v v' ∧ i ≤ j ∧ ∃ e, es[j - i]? = some e ∧ e.val = v ∧ e.key = k)
  | [], es', i, r, hm, h => by
    have : es' = [] := by
      have := hm.1
      simp at this
      exact List.eq_nil_of_length_eq_zero (by omega)
    subst this
    simp only [afind] at h
    cases h
    exact ⟨none, rfl, .inl ⟨rfl, rfl⟩⟩
  | e :: es, es', i, r, hm, h => by
    cases es' with
    | nil => have := hm.1; simp at this
    | cons e' es' =>
      obtain ⟨x, hx, h1, h2, h3, h4⟩ := hm.2 0 e rfl
      obtain rfl : e' = x := by simpa using hx
      have hm' : ME E n es es'.toArray := ⟨by have := hm.1; simp at this ⊢; exact this, fun j y hy => by
        obtain ⟨z, hz, g⟩ := hm.2 (j + 1) y hy
        exact ⟨z, by simpa using hz, g⟩⟩
      have hs : ∀ b, sameKey k e.key = some b → Instr.sameNow d k e'.key = some b ∧ (b = true → e.key = k) := by
        intro b hb
        rw [h1]
        unfold sameKey at hb
        split at hb
        · rename_i k1 a k2 c hec
          split at hb
          · rename_i hkk
            subst hkk
            cases hb
            cases d <;> first | (cases hk; done) | exact ⟨by rw [hec]; simp [Instr.sameNow], fun hc => by rw [hec]; simp at hc; rw [hc]⟩
          · cases hb
        · rename_i a c hec
          cases hb
          have hq : beqL a.data.toList c.data.toList = (a == c) := seq_eq a c
          rw [hq]
          cases d <;> first | (cases hk; done) | exact ⟨by rw [hec]; simp [Instr.sameNow], fun hc => by rw [hec, bytes_eq hc]⟩
        · rename_i a c hec
          cases hb
          cases d <;> first | (cases hk; done) | exact ⟨by rw [hec]; simp [Instr.sameNow], fun hc => by rw [hec]; simp at hc; rw [hc]⟩
        · cases hb
      simp only [afind] at h
      split at h
      · rename_i b hb
        obtain ⟨hs1, hs2⟩ := hs b hb
        split at h
        · cases h
          exact ⟨some (i, e'.val), by simp only [Instr.findNow, hs1], .inr ⟨i, e.val, e'.val, rfl, rfl, h4, Nat.le_refl _, e, by simp, rfl, hs2 rfl⟩⟩
        · obtain ⟨r', g1, g2⟩ := afind_now hk es es' (i + 1) r hm' h
          refine ⟨r', by simp only [Instr.findNow, hs1]; exact g1, ?_⟩
          rcases g2 with g2 | ⟨j, v, v', e1, e2, e3, e4, x, e5, e6, e7⟩
          · exact .inl g2
          · exact .inr ⟨j, v, v', e1, e2, e3, by omega, x, by rw [show j - i = j - (i + 1) + 1 by omega]; exact e5, e6, e7⟩
      · cases h

theorem mapDesc_run (hT : TabOK P T) {t : TypeId} {kd : TypeDesc} {ei : TI} (h : amapDesc T t = some (kd, ei)) : ∃ kt et, P.underlying t = some (.map kt et) ∧ (∀ k, keyDesc kd k = true → P.underlying kt = some kd) ∧ T.ty et = some ei := by
  unfold amapDesc at h
  split at h
  · rename_i i hi
    split at h
    · rename_i kt et hd
      split at h
      · rename_i ki hki
        split at h
        · rename_i e hei
          cases h
          exact ⟨kt, et, und_plain hT hi hd rfl, fun k hk => und_plain hT hki rfl (by cases hd : ki.desc <;> first | rfl | (rw [hd] at hk; cases k <;> cases hk)), hei⟩
        · cases h
      · cases h
    · cases h
  · cases h

theorem map_at (hR : R T.ng E H w) {r : Nat} {es : List MapEntry} {c : Nat} (hH : H[r]? = some (.map es c)) : ∃ es', w.heap[(E r).blk]? = some (.map es' c) ∧ ME E H.dom es es' ∧ (E r).esz = 0 := hR.obj r _ hH

theorem getMap_run {b c : Nat} {es : Array MapEntry} (h : w.heap[b]? = some (.map es c)) : (getObj b).run P w = .ok (.map es c) w := by simp [getObj, Sem.run, h]
theorem setMap_run {b c : Nat} {es : Array MapEntry} (o : Obj) (h : w.heap[b]? = some (.map es c)) : (setObj b o).run P w = .ok () { w with heap := w.heap.setIfInBounds b o } := by simp [setObj, Sem.run, h]

theorem zero_VR (hT : TabOK P T) {n : Dom} {t : TypeId} {i : TI} (h : T.ty t = some i) : VR E n i.zero i.zero := by
  have hf := (hT.flat t i h).1
  have h1 := flat_self (E := E) (n := n) hf
  cases hz : i.zero with
  | agg cs => rw [hz] at h1; exact .agg rfl fun j hj => by have := h1.2 j (by simpa [Value.cells] using hj); rwa [getD_toList] at this
  | _ => rw [hz] at hf; exact .same (by simpa [Value.cells] using hf)

theorem alookup_sound (hT : TabOK P T) (hR : R T.ng E H w) {t : TypeId} {m k m' k' v : Value} {ok : Bool} (hm : VR E H.dom m m') (hk : VR E H.dom k k') (h : alookup T H t m k ok = some v) :
    DoesV P T.ng E H w (Instr.lookup t m' k' ok) v H := by
  unfold alookup at h
  rw [hT.prim] at h
  split at h
  · rename_i kd ei hmd
    obtain ⟨kt, et, hu, hku, hei⟩ := mapDesc_run hT hmd
    split at h
    · rename_i hkd
      have hku := hku _ hkd
      have hkk : k' = k := by
        cases kd <;> first | (cases k <;> cases hkd; done) | skip
        all_goals (cases k <;> first | (cases hkd; done) | (first | exact hk.int | exact hk.string | exact hk.bool))
      subst hkk
      have hz : VR E H.dom (if ok = true then .tuple #[ei.zero, .bool false] else ei.zero) (if ok = true then .tuple #[ei.zero, .bool false] else ei.zero) := by
        have h1 : VR E H.dom ei.zero ei.zero := zero_VR hT hei
        split
        · refine .tuple rfl fun j hj => ?_
          match j, hj with
          | 0, _ => exact h1
          | 1, _ => exact .same rfl
        · exact h1
      have hzr : (zeroValue et).run P w = .ok ei.zero w := run_zero hT hei w
      split at h
      · cases h
        have e := hm.nilMap; subst e
        refine .here hR ?_ hz
        simp [Instr.lookup, run_underlying hu, checkKey_run hku hkd, Instr.findKey, run_underlying hku, Instr.findNow, hzr]
      · rename_i r
        obtain ⟨hr, rfl⟩ := hm.mapp
        split at h
        · rename_i es c hH
          obtain ⟨es', hb, hme, _⟩ := map_at hR hH
          split at h
          · rename_i j v0 hf
            cases h
            obtain ⟨r', g1, g2⟩ := afind_now hkd es es'.toList 0 _ (by simpa using hme) hf
            rcases g2 with ⟨e1, _⟩ | ⟨j', v1, v', e1, rfl, e3, _⟩
            · cases e1
            · cases e1
              refine .here hR (v' := if ok = true then .tuple #[v', .bool true] else v') ?_ ?_
              · simp [Instr.lookup, run_underlying hu, getMap_run hb, checkKey_run hku hkd, Instr.findKey, run_underlying hku, g1]
              · split
                · refine .tuple rfl fun i hi => ?_
                  match i, hi with
                  | 0, _ => exact e3
                  | 1, _ => exact .same rfl
                · exact e3
          · rename_i hf
            cases h
            obtain ⟨r', g1, g2⟩ := afind_now hkd es es'.toList 0 _ (by simpa using hme) hf
            rcases g2 with ⟨_, rfl⟩ | ⟨j', v1, v', e1, _⟩
            · refine .here hR ?_ hz
              simp [Instr.lookup, run_underlying hu, getMap_run hb, checkKey_run hku hkd, Instr.findKey, run_underlying hku, g1, hzr]
            · cases e1
          · cases h
        · cases h
      · cases h
    · cases h
  · cases h

theorem setObj_heap_ne {b b' : Nat} (o : Obj) (h : b' ≠ b) : ({ w with heap := w.heap.setIfInBounds b o } : World).heap[b']? = w.heap[b']? := by
  show (w.heap.setIfInBounds b o)[b']? = _
  rw [Array.getElem?_setIfInBounds, if_neg (fun e => h e.symm)]
theorem setObj_heap_eq {b : Nat} {x : Obj} (o : Obj) (h : w.heap[b]? = some x) : ({ w with heap := w.heap.setIfInBounds b o } : World).heap[b]? = some o := by
  have hb : b < w.heap.size := by
    rcases Nat.lt_or_ge b w.heap.size with hl | hl
    · exact hl
    · rw [Array.getElem?_eq_none hl] at h; cases h
  show (w.heap.setIfInBounds b o)[b]? = _
  rw [Array.getElem?_setIfInBounds, if_pos rfl, if_pos hb]

theorem keys_same {k : Value} {d : TypeDesc} (h : keyDesc d k = true) : Instr.sameBits 10000 k k = true := by
  cases d <;> first | (cases k <;> cases h; done) | skip
  all_goals (cases k <;> first | (cases h; done) | simp [Instr.sameBits, bytes_self])
theorem key_flat {k : Value} {d : TypeDesc} (h : keyDesc d k = true) : flat k = true := by
  cases d <;> first | (cases k <;> cases h; done) | skip
  all_goals (cases k <;> first | (cases h; done) | rfl)
theorem key_VR {k k' : Value} {d : TypeDesc} {n : Dom} (h : keyDesc d k = true) (hk : VR E n k k') : k' = k := by
  cases d <;> first | (cases k <;> cases h; done) | skip
  all_goals (cases k <;> first | (cases h; done) | (first | exact hk.int | exact hk.string | exact hk.bool))

theorem ME.modify {n : Dom} {i : Nat} {es : List MapEntry} {es' : Array MapEntry} {k v v' : Value} (h : ME E n es es') (hk : flat k = true) (hv : VR E n v v') :
    ME E n (es.modify i fun e => { e with key := k, val := v }) (es'.modify i fun e => { e with key := k, val := v' }) := by
  refine ⟨by simpa using h.1, fun j e hj => ?_⟩
  rw [List.getElem?_modify] at hj
  rw [Array.getElem?_modify]
  by_cases hij : i = j
  · subst hij
    simp only [if_true] at hj ⊢
    cases he : es[i]? with
    | none => rw [he] at hj; cases hj
    | some x =>
      rw [he] at hj
      cases hj
      obtain ⟨x', g1, _, _, g4, _⟩ := h.2 i x he
      exact ⟨{ x' with key := k, val := v' }, by rw [g1]; rfl, rfl, hk, g4, hv⟩
  · simp only [if_neg hij] at hj ⊢
    cases he : es[j]? with
    | none => rw [he] at hj; cases hj
    | some x =>
      rw [he] at hj
      simp at hj
      subst hj
      exact h.2 j x he
theorem ME.push {n : Dom} {es : List MapEntry} {es' : Array MapEntry} {e e' : MapEntry} (h : ME E n es es') (h1 : e'.key = e.key) (h2 : flat e.key = true) (h3 : e'.born = e.born) (h4 : VR E n e.val e'.val) : ME E n (es ++ [e]) (es'.push e') := by
  have hl := h.1
  refine ⟨by simp [hl], fun j x hj => ?_⟩
  by_cases hjl : j < es.length
  · rw [List.getElem?_append_left hjl] at hj
    obtain ⟨x', g1, g⟩ := h.2 j x hj
    exact ⟨x', by rw [Array.getElem?_push, if_neg (by omega)]; exact g1, g⟩
  · have : j < (es ++ [e]).length := by
      rcases Nat.lt_or_ge j (es ++ [e]).length with hh | hh
      · exact hh
      · rw [List.getElem?_eq_none hh] at hj; cases hj
    simp at this
    have : j = es.length := by omega
    subst this
    simp at hj
    subst hj
    exact ⟨e', by rw [Array.getElem?_push, if_pos hl], h1, h2, h3, h4⟩
theorem ME.erase {n : Dom} {i : Nat} {es : List MapEntry} {es' : Array MapEntry} (h : ME E n es es') : ME E n (es.eraseIdx i) (es'.eraseIdxIfInBounds i) := by
  have hl := h.1
  have he : (es'.eraseIdxIfInBounds i).toList = es'.toList.eraseIdx i := by
    unfold Array.eraseIdxIfInBounds
    split
    · simp
    · rename_i h
      rw [List.eraseIdx_of_length_le (by simpa using h)]
  refine ⟨?_, fun j x hj => ?_⟩
  · have : (es'.eraseIdxIfInBounds i).size = (es'.toList.eraseIdx i).length := by rw [← he, Array.length_toList]
    rw [this, List.length_eraseIdx, List.length_eraseIdx]
    simp [hl]
  · have : (es'.eraseIdxIfInBounds i)[j]? = (es'.toList.eraseIdx i)[j]? := by rw [← he, Array.getElem?_toList]
    rw [this]
    rw [List.getElem?_eraseIdx] at hj ⊢
    split at hj
    · rename_i hji
      rw [if_pos hji]
      obtain ⟨x', g1, g⟩ := h.2 _ _ hj
      exact ⟨x', by simpa using g1, g⟩
    · rename_i hji
      rw [if_neg hji]
      obtain ⟨x', g1, g⟩ := h.2 _ _ hj
      exact ⟨x', by simpa using g1, g⟩

theorem amapUpdate_sound (hT : TabOK P T) (hR : R T.ng E H w) {t : TypeId} {m k v m' k' v' : Value} {H1 : AHeap} (hm : VR E H.dom m m') (hk : VR E H.dom k k') (hv : VR E H.dom v v')
    (h : amapUpdate T H t m k v = some H1) : DoesU P T.ng E H w (Instr.mapUpdate t m' k' v') H1 := by
  unfold amapUpdate at h
  rw [hT.prim] at h
  split at h
  · rename_i kd ei hmd
    obtain ⟨kt, et, hu, hku, hei⟩ := mapDesc_run hT hmd
    split at h
    · rename_i hkd
      have hku := hku _ hkd
      have hkk := key_VR hkd hk
      subst hkk
      split at h
      · rename_i r
        obtain ⟨hr, rfl⟩ := hm.mapp
        split at h
        · rename_i es c hH
          obtain ⟨es', hb, hme, hez⟩ := map_at hR hH
          split at h
          · rename_i j v0 hf
            cases h
            obtain ⟨r', g1, g2⟩ := afind_now hkd es es'.toList 0 _ (by simpa using hme) hf
            rcases g2 with ⟨e1, _⟩ | ⟨j', v1, u', e1, rfl, e3, _, e, e5, e6, e7⟩
            · cases e1
            · cases e1
              simp only [Nat.sub_zero] at e5
              obtain ⟨e', q1, q2, _⟩ := hme.2 j e e5
              have hrun : (Instr.mapUpdate t (.map (some (E r).blk)) k' v').run P w = .ok () { w with heap := w.heap.setIfInBounds (E r).blk (.map (es'.modify j fun e => { e with key := k', val := v' }) c) } := by
                simp [Instr.mapUpdate, run_underlying hu, getMap_run hb, checkKey_run hku hkd, Instr.findKey, run_underlying hku, g1, Instr.keyThatStays, q1, q2, e7, keys_same hkd, setMap_run _ hb]
              have := hR.write (w' := { w with heap := w.heap.setIfInBounds (E r).blk (.map (es'.modify j fun e => { e with key := k', val := v' }) c) }) ⟨_, hH, rfl⟩ (.map (es.modify j fun e => { e with key := k', val := v }) c)
                (by simp) (fun b hb' => setObj_heap_ne _ hb') ⟨_, setObj_heap_eq _ hb, hme.modify (key_flat hkd) hv, hez⟩ (fun r h => by rw [hb] at h; cases h) ⟨rfl, rfl, rfl⟩
              exact ⟨E, _, hrun, this.1, this.2, by rw [dom_set]; exact Dom.le_refl _⟩
          · rename_i hf
            cases h
            obtain ⟨r', g1, g2⟩ := afind_now hkd es es'.toList 0 _ (by simpa using hme) hf
            rcases g2 with ⟨_, rfl⟩ | ⟨j', v1, u', e1, _⟩
            · have hrun : (Instr.mapUpdate t (.map (some (E r).blk)) k' v').run P w = .ok () { w with heap := w.heap.setIfInBounds (E r).blk (.map (es'.push { key := k', val := v', born := c }) (c + 1)) } := by
                simp [Instr.mapUpdate, run_underlying hu, getMap_run hb, checkKey_run hku hkd, Instr.findKey, run_underlying hku, g1, setMap_run _ hb]
              have := hR.write (w' := { w with heap := w.heap.setIfInBounds (E r).blk (.map (es'.push { key := k', val := v', born := c }) (c + 1)) }) ⟨_, hH, rfl⟩ (.map (es ++ [{ key := k', val := v, born := c }]) (c + 1))
                (by simp) (fun b hb' => setObj_heap_ne _ hb') ⟨_, setObj_heap_eq _ hb, hme.push rfl (key_flat hkd) rfl hv, hez⟩ (fun r h => by rw [hb] at h; cases h) ⟨rfl, rfl, rfl⟩
              exact ⟨E, _, hrun, this.1, this.2, by rw [dom_set]; exact Dom.le_refl _⟩
            · cases e1
          · cases h
        · cases h
      · cases h
    · cases h
  · cases h

theorem amapDelete_sound (hT : TabOK P T) (hR : R T.ng E H w) {t : TypeId} {ts : Array TypeId} {ty : TypeId} {m k m' k' : Value} {H1 : AHeap} (hts : ts[0]? = some t) (hm : VR E H.dom m m') (hk : VR E H.dom k k')
    (h : amapDelete T H t m k = some H1) : DoesV P T.ng E H w (Builtin.delete_ ts ty #[m', k']) (.tuple #[]) H1 := by
  unfold amapDelete at h
  rw [hT.prim] at h
  split at h
  · rename_i kd ei hmd
    obtain ⟨kt, et, hu, hku, hei⟩ := mapDesc_run hT hmd
    split at h
    · rename_i hkd
      have hku := hku _ hkd
      have hkk := key_VR hkd hk
      subst hkk
      split at h
      · cases h
        have e := hm.nilMap; subst e
        refine .here hR (v' := .tuple #[]) ?_ (.same rfl)
        simp [Builtin.delete_, hts, run_underlying hu, checkKey_run hku hkd]
      · rename_i r
        obtain ⟨hr, rfl⟩ := hm.mapp
        split at h
        · rename_i es c hH
          obtain ⟨es', hb, hme, hez⟩ := map_at hR hH
          split at h
          · rename_i j v0 hf
            cases h
            obtain ⟨r', g1, g2⟩ := afind_now hkd es es'.toList 0 _ (by simpa using hme) hf
            rcases g2 with ⟨e1, _⟩ | ⟨j', v1, u', e1, rfl, e3, _, e, e5, e6, e7⟩
            · cases e1
            · cases e1
              have hrun : (Builtin.delete_ ts ty #[.map (some (E r).blk), k']).run P w = .ok (.tuple #[]) { w with heap := w.heap.setIfInBounds (E r).blk (.map (es'.eraseIdxIfInBounds j) c) } := by
                simp [Builtin.delete_, hts, run_underlying hu, getMap_run hb, checkKey_run hku hkd, Instr.findKey, run_underlying hku, g1, setMap_run _ hb]
              have := hR.write (w' := { w with heap := w.heap.setIfInBounds (E r).blk (.map (es'.eraseIdxIfInBounds j) c) }) ⟨_, hH, rfl⟩ (.map (es.eraseIdx j) c)
                (by simp) (fun b hb' => setObj_heap_ne _ hb') ⟨_, setObj_heap_eq _ hb, hme.erase, hez⟩ (fun r h => by rw [hb] at h; cases h) ⟨rfl, rfl, rfl⟩
              exact ⟨E, _, _, hrun, .same rfl, this.1, this.2, by rw [dom_set]; exact Dom.le_refl _⟩
          · rename_i hf
            cases h
            obtain ⟨r', g1, g2⟩ := afind_now hkd es es'.toList 0 _ (by simpa using hme) hf
            rcases g2 with ⟨_, rfl⟩ | ⟨j', v1, u', e1, _⟩
            · have hrun : (Builtin.delete_ ts ty #[.map (some (E r).blk), k']).run P w = .ok (.tuple #[]) { w with heap := w.heap.setIfInBounds (E r).blk (.map es' c) } := by
                simp [Builtin.delete_, hts, run_underlying hu, getMap_run hb, checkKey_run hku hkd, Instr.findKey, run_underlying hku, g1, setMap_run _ hb]
              have hheap : ({ w with heap := w.heap.setIfInBounds (E r).blk (.map es' c) } : World).heap = w.heap := by
                show w.heap.setIfInBounds (E r).blk (.map es' c) = w.heap
                apply Array.ext_getElem?
                intro i
                rw [Array.getElem?_setIfInBounds]
                split
                · rename_i e; subst e
                  split
                  · exact hb.symm
                  · rename_i hlt; rw [Array.getElem?_eq_none (by omega)]
                · rfl
              exact ⟨E, _, _, hrun, .same rfl, hR.heapEq hheap, (.heapEq hheap (by first | exact ⟨rfl, rfl, rfl⟩ | exact henv)), Dom.le_refl _⟩
            · cases e1
          · cases h
        · cases h
      · cases h
    · cases h
  · cases h

theorem alen_sound (hT : TabOK P T) (hR : R T.ng E H w) {t ty : TypeId} {x x' v : Value} (hx : VR E H.dom x x') (h : alen T H t x = some v) : DoesV P T.ng E H w (Builtin.len_ #[t] ty #[x']) v H := by
  unfold alen at h
  rw [hT.prim] at h
  split at h
  · rename_i i hi
    split at h
    · rename_i s hd
      cases h
      have e := hx.string; subst e
      exact .here hR (v' := .int .i64 s.size) (by simp [Builtin.len_, run_und hT hi hd rfl, goInt]) (.same rfl)
    · rename_i a n c hd
      cases h
      have : ∃ a' c', x' = .slice a' n c' := by
        cases hx with
        | same h => exact ⟨_, _, rfl⟩
        | slice hb => exact ⟨_, _, rfl⟩
      obtain ⟨a', c', rfl⟩ := this
      exact .here hR (by simp [Builtin.len_, run_und hT hi hd rfl, goInt]) (.same rfl)
    · rename_i hd
      cases h
      have e := hx.nilMap; subst e
      exact .here hR (by simp [Builtin.len_, run_und hT hi hd rfl, goInt]) (.same rfl)
    · rename_i r hd
      obtain ⟨hr, rfl⟩ := hx.mapp
      split at h
      · rename_i es c hH
        cases h
        obtain ⟨es', hb, hme, hez⟩ := map_at hR hH
        exact .here hR (v' := .int .i64 es.length) (by simp [Builtin.len_, run_und hT hi hd rfl, getMap_run hb, goInt, hme.1]) (.same rfl)
      · cases h
    · cases h
  · cases h
end
end Go.Ab
