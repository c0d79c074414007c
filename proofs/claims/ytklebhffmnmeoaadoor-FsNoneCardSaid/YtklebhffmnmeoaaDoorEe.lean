/- The engine, part 5: operations that read, write, make. -/
import Derived.Test.YtklebhffmnmeoaaDoorEd
namespace Go.Ab
open Go

/-- The real operation answers what the small world's does. -/
def DoesV (P : Program) (ng : Nat) (E : Emb) (H : AHeap) (w : World) (s : Sem Value) (v : Value) (H1 : AHeap) : Prop :=
  ∃ E1 w1 v', s.run P w = .ok v' w1 ∧ VR E1 H1.dom v v' ∧ R ng E1 H1 w1 ∧ Fr H.dom E H w E1 H1 w1 ∧ H.dom.le H1.dom
def DoesU (P : Program) (ng : Nat) (E : Emb) (H : AHeap) (w : World) (s : Sem Unit) (H1 : AHeap) : Prop :=
  ∃ E1 w1, s.run P w = .ok () w1 ∧ R ng E1 H1 w1 ∧ Fr H.dom E H w E1 H1 w1 ∧ H.dom.le H1.dom

section
variable {P : Program} {T : Tab} {E : Emb} {H : AHeap} {w : World}

theorem DoesV.here (hR : R T.ng E H w) {s : Sem Value} {v v' : Value} (hs : s.run P w = .ok v' w) (hv : VR E H.dom v v') : DoesV P T.ng E H w s v H :=
  ⟨E, w, v', hs, hv, hR, .refl _ _ _ _, Dom.le_refl _⟩

theorem anew_some {H H1 : AHeap} {o : AObj} {f : Nat → Value} {ov : Option Value} (h : anew H o f = some (ov, H1)) : H.next < BG ∧ ov = some (f H.next) ∧ H1 = H.push o := by
  unfold anew at h
  split at h
  · rename_i hr; cases h; exact ⟨room_lt hr, rfl, rfl⟩
  · cases h
theorem run_und (hT : TabOK P T) {t : TypeId} {i : TI} {d : TypeDesc} (h : T.ty t = some i) (hd : i.desc = d) (hp : plainD d = true) (w : World) : (underlying t).run P w = .ok d w := by
  obtain ⟨⟨d', h1, h2⟩, _⟩ := hT.ty t i h
  rw [hd] at h2
  rw [strip_plain h2 hp] at h1
  exact run_underlying h1 w
theorem und_plain (hT : TabOK P T) {t : TypeId} {i : TI} {d : TypeDesc} (h : T.ty t = some i) (hd : i.desc = d) (hp : plainD d = true) : P.underlying t = some d := by
  obtain ⟨⟨d', h1, h2⟩, _⟩ := hT.ty t i h
  rw [hd] at h2
  rw [strip_plain h2 hp] at h1
  exact h1
theorem run_struct (hT : TabOK P T) {t : TypeId} {i : TI} {fs : Array Field} (h : T.ty t = some i) (hd : i.desc = .struct fs) (w : World) : ∃ fs', (underlying t).run P w = .ok (.struct fs') w ∧ fs = fs'.map stripF := by
  obtain ⟨⟨d', h1, h2⟩, _⟩ := hT.ty t i h
  rw [hd] at h2
  cases d' <;> first | (cases h2; done) | skip
  injection h2 with h2
  exact ⟨_, run_underlying h1 w, h2.symm⟩
theorem run_size (hT : TabOK P T) {t : TypeId} {i : TI} (h : T.ty t = some i) (w : World) : (sizeOf t).run P w = .ok i.size w := by
  obtain ⟨_, info, h1, h2, h3, h4⟩ := hT.ty t i h
  simp only [sizeOf, typeInfo, Sem.run_bind, run_program, Result.andThen, h1, Sem.run_pure, h2]
theorem run_zero (hT : TabOK P T) {t : TypeId} {i : TI} (h : T.ty t = some i) (w : World) : (zeroValue t).run P w = .ok i.zero w := by
  obtain ⟨_, info, h1, h2, h3, h4⟩ := hT.ty t i h
  simp only [zeroValue, typeInfo, Sem.run_bind, run_program, Result.andThen, h1, Sem.run_pure, h4]
theorem run_info (hT : TabOK P T) {t : TypeId} {i : TI} (h : T.ty t = some i) (w : World) : ∃ info, (typeInfo t).run P w = .ok info w ∧ info.size = i.size ∧ info.bytes = i.bytes ∧ info.zero = some i.zero := by
  obtain ⟨_, info, h1, h2, h3, h4⟩ := hT.ty t i h
  exact ⟨info, by simp only [typeInfo, Sem.run_bind, run_program, Result.andThen, h1, Sem.run_pure], h2, h3, h4⟩
theorem run_agg? (hT : TabOK P T) {t : TypeId} {i : TI} (h : T.ty t = some i) (w : World) : (isAgg t).run P w = .ok (TypeDesc.isAgg i.desc) w := by
  obtain ⟨⟨d, h1, h2⟩, _⟩ := hT.ty t i h
  simp only [isAgg, Sem.run_bind, run_underlying h1, Result.andThen, ← h2]
  cases d <;> rfl

theorem flat_self {n : Dom} {l : List Value} (h : l.all flat = true) : PL E n l l :=
  ⟨rfl, fun j hj => .same (by
    rw [List.all_eq_true] at h
    have := h (l.getD j undef) (by rw [List.getD_eq_getElem?_getD, List.getElem?_eq_getElem hj]; simp)
    exact this)⟩

theorem aload_run (hT : TabOK P T) (hR : R T.ng E H w) {t : TypeId} {a a' v : Value} (ha : VR E H.dom a a') (h : aload T H t a = some v) :
    ∃ v', (Instr.loadAt t a').run P w = .ok v' w ∧ VR E H.dom v v' := by
  unfold aload at h
  rw [hT.prim] at h
  split at h
  · rename_i b o
    obtain ⟨hb, rfl⟩ := ha.pointer
    split at h
    · rename_i i hi
      split at h
      · rename_i hagg
        split at h
        · rename_i l hl
          cases h
          obtain ⟨l', hn, hc, hpl⟩ := hld_sound hR hl
          refine ⟨.agg l'.toArray, ?_, .agg hpl.pa.1 hpl.pa.2⟩
          have h1 := run_loadCells_list (P := P) w _ l' hc
          rw [hn] at h1
          simp only [Instr.loadAt, Instr.sureAddr, loadVar, Sem.run_bind, Sem.run_pure, Result.andThen, run_agg? hT hi, hagg, if_true, run_size hT hi, h1]
        · cases h
      · rename_i hagg
        obtain ⟨v', hc, hv⟩ := hld1_sound hR h
        refine ⟨v', ?_, hv⟩
        simp only [Instr.loadAt, Instr.sureAddr, loadVar, Sem.run_bind, Sem.run_pure, Result.andThen, run_agg? hT hi, if_neg hagg, run_load, hc]
    · cases h
  · cases h

theorem aload_sound (hT : TabOK P T) (hR : R T.ng E H w) {t : TypeId} {a a' v : Value} (ha : VR E H.dom a a') (h : aload T H t a = some v) :
    DoesV P T.ng E H w (Instr.loadAt t a') v H := by
  obtain ⟨v', h1, h2⟩ := aload_run hT hR ha h
  exact .here hR h1 h2

theorem astore_sound (hT : TabOK P T) (hR : R T.ng E H w) {t : TypeId} {a a' x x' : Value} {H1 : AHeap} (ha : VR E H.dom a a') (hx : VR E H.dom x x') (h : astore T H t a x = some H1) :
    DoesU P T.ng E H w (Instr.storeAt t a' x') H1 := by
  unfold astore at h
  rw [hT.prim] at h
  split at h
  · rename_i b o
    obtain ⟨hb, rfl⟩ := ha.pointer
    split at h
    · rename_i i hi
      split at h
      · rename_i hsz
        split at h
        · rename_i ho
          have hk : known x = true := by
            cases x <;> try rfl
            rename_i r
            cases r
            · rfl
            · simp [Value.cells, known] at ho
          have hpl := hx.cells hk
          rw [List.all_eq_true] at ho
          obtain ⟨w1, h1, h2, h3, h4⟩ := hst_sound P hR h hpl (fun v hv => by
            obtain ⟨j, hj, rfl⟩ := List.mem_iff_getElem.1 hv
            have hj' : j < x.cells.toList.length := by rw [hpl.1]; exact hj
            have := hpl.2 j hj'
            rw [List.getD_eq_getElem?_getD, List.getElem?_eq_getElem hj', List.getD_eq_getElem?_getD, List.getElem?_eq_getElem hj] at this
            have h2 := ho _ (List.getElem_mem hj')
            rw [Bool.and_eq_true] at h2
            exact this.oneCell h2.1 h2.2)
          refine ⟨E, w1, ?_, h2, h3, by rw [h4]; exact Dom.le_refl _⟩
          have hsz' : x'.cells.size = i.size := by have := hpl.1; simp at this; omega
          simp only [Instr.storeAt, Instr.sureAddr, storeVar, Sem.run_bind, Sem.run_pure, Result.andThen, run_size hT hi, hsz', ne_eq, not_true_eq_false, if_false, h1]
        · cases h
      · cases h
    · cases h
  · cases h

/-- A new variable. -/
theorem avar_sound (hr : H.next < BG) (hR : R T.ng E H w) (t : TypeId) (cs cs' : List Value) (hpl : PL E H.dom cs cs') :
    R T.ng (upd E H.next ⟨w.heap.size, 0, 0, 0⟩) (H.push (.var t cs)) (w.alloc (.cells cs'.toArray t)) ∧ Fr H.dom E H w (upd E H.next ⟨w.heap.size, 0, 0, 0⟩) (H.push (.var t cs)) (w.alloc (.cells cs'.toArray t)) := by
  refine hR.new hr (.var t cs) (.cells cs'.toArray t) 0 0 ⟨cs'.toArray, t, by rw [upd_same]; exact heap_push_new _ _, ?_, by rw [upd_same], by rw [upd_same], by have := hpl.1; simp; omega⟩
  refine ⟨by rw [upd_same]; have := hpl.1; simp; omega, fun j hj => ?_⟩
  rw [upd_same, Nat.zero_add, getD_toArray]
  exact (hpl.2 j hj).mono (dom_push hr) fun i hi => upd_dom hr _ _ _ hi

/-- A new row. -/
theorem arow_sound (hr : H.next < BG) (hR : R T.ng E H w) (t : TypeId) (sz : Nat) (cs : List Value) (cs' : List Value) (rest : List Value) (lo hi : Nat) (hf : cs'.length + rest.length ≤ lo ∨ hi = lo) (hpl : PL E H.dom cs cs') :
    let E1 := upd E H.next ⟨w.heap.size, 0, cs'.length + rest.length, sz⟩
    R T.ng E1 (H.push (.row t sz cs)) (w.alloc (.cells (cs' ++ rest).toArray t (lo, hi))) ∧ Fr H.dom E H w E1 (H.push (.row t sz cs)) (w.alloc (.cells (cs' ++ rest).toArray t (lo, hi))) := by
  refine hR.new hr (.row t sz cs) (.cells (cs' ++ rest).toArray t (lo, hi)) _ sz ⟨(cs' ++ rest).toArray, lo, hi, by rw [upd_same]; exact heap_push_new _ _, ?_, by rw [upd_same], by rw [upd_same]; simp, by simpa using hf⟩
  have hl := hpl.1
  refine ⟨by rw [upd_same]; simp; omega, fun j hj => ?_⟩
  rw [upd_same, Nat.zero_add, getD_toArray, List.getD_eq_getElem?_getD (l := cs' ++ rest), List.getElem?_append_left (by omega), ← List.getD_eq_getElem?_getD]
  exact (hpl.2 j hj).mono (dom_push hr) fun i hi => upd_dom hr _ _ _ hi

theorem alloc_sound (hr : H.next < BG) (hT : TabOK P T) (hR : R T.ng E H w) {t : TypeId} {i : TI} (hi : T.ty t = some i) :
    DoesV P T.ng E H w (Instr.alloc t true (.tuple #[])) (.pointer (some ⟨H.next, 0, none⟩)) (H.push (.var t i.zero.cells.toList)) := by
  obtain ⟨h1, h2⟩ := avar_sound hr hR t _ _ (flat_self (E := E) (n := H.dom) (hT.flat t i hi).1)
  refine ⟨_, _, .pointer (some ⟨w.heap.size, 0, none⟩), ?_, ?_, h1, h2, dom_push hr⟩
  · simp only [Instr.alloc, Sem.run_bind, run_zero hT hi, Result.andThen, newVar, newRow, run_newObj, Sem.run_pure, World.alloc_eq]
  · have := VR.ptr (E := upd E H.next ⟨w.heap.size, 0, 0, 0⟩) (n := (H.push (AObj.var t i.zero.cells.toList)).dom) (b := H.next) (o := 0) (push_dom hr)
    simpa using this

theorem box_sound (hr : H.next < BG) (hR : R T.ng E H w) {t : TypeId} {x x' : Value} (hx : VR E H.dom x x') (hk : known x = true) :
    DoesV P T.ng E H w (Instr.box t x') (.pointer (some ⟨H.next, 0, none⟩)) (H.push (.var t x.cells.toList)) := by
  obtain ⟨h1, h2⟩ := avar_sound hr hR t _ _ (hx.cells hk)
  refine ⟨_, _, .pointer (some ⟨w.heap.size, 0, none⟩), ?_, ?_, h1, h2, dom_push hr⟩
  · simp only [Instr.box, Sem.run_bind, Result.andThen, newVar, newRow, run_newObj, Sem.run_pure, World.alloc_eq]
  · have := VR.ptr (E := upd E H.next ⟨w.heap.size, 0, 0, 0⟩) (n := (H.push (AObj.var t x.cells.toList)).dom) (b := H.next) (o := 0) (push_dom hr)
    simpa using this

theorem makeMap_sound (hr : H.next < BG) (hR : R T.ng E H w) {t : TypeId} : DoesV P T.ng E H w (Instr.makeMap t none) (.map (some H.next)) (H.push (.map [] 0)) := by
  obtain ⟨h1, h2⟩ := hR.new hr (.map [] 0) (.map #[] 0) 0 0 ⟨#[], by rw [upd_same]; exact heap_push_new _ _, ⟨rfl, fun j e he => by simp at he⟩, by rw [upd_same]⟩
  refine ⟨_, _, .map (some w.heap.size), ?_, ?_, h1, h2, dom_push hr⟩
  · simp [Instr.makeMap]
  · have := VR.map (E := upd E H.next ⟨w.heap.size, 0, 0, 0⟩) (n := (H.push (AObj.map [] 0)).dom) (r := H.next) (push_dom hr)
    simpa using this

theorem apart_sound (hT : TabOK P T) (w : World) {n : Dom} {t : TypeId} {cs : List Value} {cs' : Array Value} {off : Nat} {v : Value} (hc : PL E n cs cs'.toList) (h : apart T t cs off = some v) :
    ∃ v', (part t cs' off).run P w = .ok v' w ∧ VR E n v v' := by
  have hl := hc.1
  simp at hl
  unfold apart at h
  split at h
  · rename_i i hi
    split at h
    · rename_i hagg
      split at h
      · rename_i hle
        cases h
        refine ⟨.agg (cs'.extract off (off + i.size)), ?_, .agg (by simp; omega) fun j hj => ?_⟩
        · simp only [part, Sem.run_bind, run_agg? hT hi, hagg, Result.andThen, if_true, run_size hT hi, Sem.run_pure]
        · simp only [List.size_toArray, List.length_take, List.length_drop] at hj
          have := hc.2 (off + j) (by omega)
          rw [show cs'.toList.getD (off + j) undef = cs'.getD (off + j) undef from getD_toList _ _, List.getD_eq_getElem?_getD, Array.getD_eq_getD_getElem?] at this
          rw [getD_toArray, List.getD_eq_getElem?_getD, List.getElem?_take, if_pos (show j < i.size by omega), List.getElem?_drop, Array.getD_eq_getD_getElem?, Array.getElem?_extract, if_pos (by omega)]
          exact this
      · cases h
    · rename_i hagg
      have ho : off < cs.length := by
        rcases Nat.lt_or_ge off cs.length with hl | hl
        · exact hl
        · rw [List.getElem?_eq_none hl] at h; cases h
      have h4 := hc.2 off ho
      rw [List.getD_eq_getElem?_getD, h, show cs'.toList.getD off undef = cs'.getD off undef from getD_toList _ _, Array.getD_eq_getD_getElem?, Array.getElem?_eq_getElem (by omega)] at h4
      refine ⟨_, ?_, h4⟩
      simp only [part, Sem.run_bind, run_agg? hT hi, if_neg hagg, Result.andThen, Array.getElem?_eq_getElem (show off < cs'.size by omega), Sem.run_pure]
      simp
  · cases h

theorem field_of (hT : TabOK P T) {t : TypeId} {f sz : Nat} {fd : Field} (h : afieldOf T t f = some (fd, sz)) (w : World) :
    ∃ fields fd', (underlying t).run P w = .ok (.struct fields) w ∧ fields[f]? = some fd' ∧ (sizeOf fd'.type).run P w = .ok sz w ∧ fd'.type = fd.type ∧ fd'.offset = fd.offset := by
  unfold afieldOf at h
  split at h
  · rename_i i hi
    split at h
    · rename_i fields hd
      split at h
      · rename_i x hx
        split at h
        · rename_i j hj
          cases h
          obtain ⟨fs', h1, h2⟩ := run_struct hT hi hd w
          subst h2
          rw [Array.getElem?_map] at hx
          cases hf : fs'[f]? with
          | none => rw [hf] at hx; cases hx
          | some fd' =>
            rw [hf] at hx
            cases hx
            exact ⟨fs', fd', h1, hf, run_size hT (t := fd'.type) hj w, rfl, rfl⟩
        · cases h
      · cases h
    · cases h
  · cases h

theorem fieldAddr_sound (hT : TabOK P T) (hR : R T.ng E H w) {s : TypeId} {b o f sz : Nat} {fd : Field} {x' : Value} (hx : VR E H.dom (.pointer (some ⟨b, o, none⟩)) x') (h : afieldOf T s f = some (fd, sz)) (hz : sz ≠ 0) :
    DoesV P T.ng E H w (Instr.fieldAt s x' f) (.pointer (some ⟨b, o + fd.offset, none⟩)) H := by
  obtain ⟨hb, rfl⟩ := hx.pointer
  obtain ⟨fields, fd', h1, h2, h3, h4, h5⟩ := field_of hT h w
  refine .here hR (v' := .pointer (some ⟨(E b).blk, (E b).sh + (o + fd.offset), none⟩)) ?_ (.ptr hb)
  simp only [Instr.fieldAt, Sem.run_bind, h1, Result.andThen, h2, Instr.sureAddr, Sem.run_pure, fieldPlace, h3, if_neg hz, Addr.add, h5]
  split <;> simp_all [Nat.add_assoc]

theorem field_sound (hT : TabOK P T) (hR : R T.ng E H w) {s : TypeId} {f sz : Nat} {cs : Array Value} {fd : Field} {x' v : Value} (hx : VR E H.dom (.agg cs) x') (h : afieldOf T s f = some (fd, sz))
    (hv : apart T fd.type cs.toList fd.offset = some v) : DoesV P T.ng E H w (Instr.field s x' f) v H := by
  obtain ⟨cs', rfl, hpa⟩ := hx.aggp
  obtain ⟨fields, fd', h1, h2, h3, h4, h5⟩ := field_of hT h w
  obtain ⟨v', h6, h7⟩ := apart_sound hT w hpa.pl hv
  refine .here hR ?_ h7
  simp only [Instr.field, Sem.run_bind, h1, Result.andThen, h2, asAgg, Sem.run_pure, h4, h5, h6]
end
end Go.Ab
