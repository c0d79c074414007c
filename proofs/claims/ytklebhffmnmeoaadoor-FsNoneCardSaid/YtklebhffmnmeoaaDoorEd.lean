/- The engine, part 4: loads, stores, new blocks: the small world's word holds of the real one. -/
import Derived.Test.YtklebhffmnmeoaaDoorEc
namespace Go.Ab
open Go

section inv
variable {E : Emb} {n : Dom} {v' : Value}
theorem VR.int {k : IntKind} {a : Int} (h : VR E n (.int k a) v') : v' = .int k a := by cases h; rfl
theorem VR.bool {b : Bool} (h : VR E n (.bool b) v') : v' = .bool b := by cases h; rfl
theorem VR.string {s : ByteArray} (h : VR E n (.string s) v') : v' = .string s := by cases h; rfl
theorem VR.nilPtr (h : VR E n (.pointer none) v') : v' = .pointer none := by cases h; rfl
theorem VR.nilMap (h : VR E n (.map none) v') : v' = .map none := by cases h; rfl
theorem VR.nilSlice {l c : Nat} (h : VR E n (.slice none l c) v') : v' = .slice none 0 0 ∧ l = 0 ∧ c = 0 := by
  cases h with
  | same h => unfold flat at h; split at h <;> first | (rename_i e; cases e; done) | skip
              all_goals first | (cases h; done) | (rename_i e; cases e; exact ⟨rfl, rfl, rfl⟩)
theorem VR.nilF (h : VR E n .nilFunc v') : v' = .nilFunc := by cases h; rfl
theorem VR.nilI (h : VR E n .nilIface v') : v' = .nilIface := by cases h; rfl
theorem VR.pointer {b o : Nat} (h : VR E n (.pointer (some ⟨b, o, none⟩)) v') : n b ∧ v' = .pointer (some ⟨(E b).blk, (E b).sh + o, none⟩) := by
  cases h with
  | same h => cases h
  | ptr hb => exact ⟨hb, rfl⟩
theorem VR.mapp {r : Nat} (h : VR E n (.map (some r)) v') : n r ∧ v' = .map (some (E r).blk) := by
  cases h with
  | same h => cases h
  | map hb => exact ⟨hb, rfl⟩
theorem VR.slicep {b o len c : Nat} (h : VR E n (.slice (some ⟨b, o, none⟩) len c) v') : ∃ o' c', n b ∧ v' = .slice (some ⟨(E b).blk, o', none⟩) len c' ∧ len ≤ c ∧
    (0 < c → o' = (E b).sh + o) ∧ c ≤ c' ∧ ((E b).esz ≠ 0 → o' + c' * (E b).esz ≤ (E b).lim) := by
  cases h with
  | same h => cases h
  | slice hb h1 h2 h3 h4 => exact ⟨_, _, hb, rfl, h1, h2, h3, h4⟩
theorem VR.aggp {a : Array Value} (h : VR E n (.agg a) v') : ∃ a', v' = .agg a' ∧ PA E n a a' := by
  cases h with
  | same h => cases h
  | agg h1 h2 => exact ⟨_, rfl, h1, h2⟩
theorem VR.tuplep {a : Array Value} (h0 : a.size ≠ 0) (h : VR E n (.tuple a) v') : ∃ a', v' = .tuple a' ∧ PA E n a a' := by
  cases h with
  | same h => exact absurd (by simpa [flat] using h) h0
  | tuple h1 h2 => exact ⟨_, rfl, h1, h2⟩
theorem VR.ifacep {t : TypeId} {v : Value} (h : VR E n (.iface t v) v') : ∃ u, v' = .iface t u ∧ VR E n v u ∧ ∀ r, v ≠ .chan (some r) := by
  cases h with
  | same h => cases h
  | iface h hv => exact ⟨_, rfl, h, hv⟩
theorem VR.yieldp {y : Nat} {a c : Array Value} (h : VR E n (.func (.yield y) a c) v') : n y ∧ v' = .func (.yield (E y).blk) #[] #[] := by
  cases h with
  | same h => cases h
  | yield hb => exact ⟨hb, rfl⟩
theorem VR.funcp {f : FuncId} {a c : Array Value} (h : VR E n (.func (.func f) a c) v') : ∃ a' c', v' = .func (.func f) a' c' ∧ PA E n a a' ∧ PA E n c c' := by
  cases h with
  | same h => cases h
  | func h1 h2 h3 h4 => exact ⟨_, _, rfl, ⟨h1, h2⟩, h3, h4⟩
end inv

/-- Lists, place by place. -/
def PL (E : Emb) (n : Dom) (l l' : List Value) : Prop := l.length = l'.length ∧ ∀ j, j < l.length → VR E n (l.getD j undef) (l'.getD j undef)

theorem getD_toArray (l : List Value) (j : Nat) : l.toArray.getD j undef = l.getD j undef := by
  simp [Array.getD_eq_getD_getElem?, List.getD_eq_getElem?_getD]
theorem getD_toList (a : Array Value) (j : Nat) : a.toList.getD j undef = a.getD j undef := by
  simp [Array.getD_eq_getD_getElem?, List.getD_eq_getElem?_getD]
theorem PL.pa {E : Emb} {n : Dom} {l l' : List Value} (h : PL E n l l') : PA E n l.toArray l'.toArray :=
  ⟨by simpa using h.1, fun i hi => by rw [getD_toArray, getD_toArray]; exact h.2 i (by simpa using hi)⟩
theorem PA.pl {E : Emb} {n : Dom} {a a' : Array Value} (h : PA E n a a') : PL E n a.toList a'.toList :=
  ⟨by simpa using h.1, fun i hi => by rw [getD_toList, getD_toList]; exact h.2 i (by simpa using hi)⟩
theorem PL.mono {E E' : Emb} {n n' : Dom} (hn : n.le n') (he : ∀ i, n i → E' i = E i) {l l' : List Value} (h : PL E n l l') : PL E' n' l l' :=
  ⟨h.1, fun i hi => (h.2 i hi).mono hn he⟩

theorem VR.cells {E : Emb} {n : Dom} {v v' : Value} (hk : known v = true) (h : VR E n v v') : PL E n v.cells.toList v'.cells.toList := by
  have one : ∀ x x' : Value, VR E n x x' → PL E n [x] [x'] := fun x x' hx => ⟨rfl, fun j hj => by simp at hj; subst hj; exact hx⟩
  cases h with
  | top => cases hk
  | same h => cases v <;> first | (exact one _ _ (.same h)) | cases h
  | ptr hb => exact one _ _ (.ptr hb)
  | slice hb h1 h2 h3 h4 => exact one _ _ (.slice hb h1 h2 h3 h4)
  | map hb => exact one _ _ (.map hb)
  | yield hb => exact one _ _ (.yield hb)
  | func h1 h2 h3 h4 => exact one _ _ (.func h1 h2 h3 h4)
  | iface h hv => exact one _ _ (.iface h hv)
  | agg h1 h2 => exact PA.pl ⟨h1, h2⟩
  | tuple h1 h2 => exact one _ _ (.tuple h1 h2)

theorem VR.oneCell {E : Emb} {n : Dom} {v v' : Value} (hk : known v = true) (ho : v.oneCell' = true) (h : VR E n v v') : v'.oneCell' = true := by
  cases h with
  | top => cases hk
  | same h => exact ho
  | agg _ _ => cases ho
  | tuple _ _ => cases ho
  | _ => rfl

theorem cell_of (w : World) (b o : Nat) {c : Array Value} {t : TypeId} {fz : Nat × Nat} (h : w.heap[b]? = some (.cells c t fz)) : w.cell? ⟨b, o, none⟩ = c[o]? := by
  simp [World.cell?, h]

section mem
variable {ng : Nat} {E : Emb} {H : AHeap} {w : World}

/-- The cells of an object, in the real world. -/
theorem R.cells (hR : R ng E H w) {b : Nat} {x : AObj} {c : List Value} (hx : H[b]? = some x) (hc : x.cells = some c) :
    ∃ c' t fz, w.heap[(E b).blk]? = some (.cells c' t fz) ∧ PS E H.dom c (E b).sh c' := by
  have h := hR.obj b x hx
  cases x <;> simp only [AObj.cells] at hc <;> try cases hc
  · obtain ⟨c', t, fz, h1, h2, _⟩ := h; exact ⟨c', t, fz, h1, h2⟩
  · obtain ⟨c', t, h1, h2, _⟩ := h; exact ⟨c', t, _, h1, h2⟩
  · obtain ⟨c', lo, hi, h1, h2, _⟩ := h; exact ⟨c', _, _, h1, h2⟩

theorem hld_of {H : AHeap} {b o n : Nat} {l : List Value} (h : hld Prim.real H b o n = some l) : ∃ x c, H[b]? = some x ∧ x.cells = some c ∧ o + n ≤ c.length ∧ (c.drop o).take n = l := by
  unfold hld at h
  split at h
  · rename_i c hx
    simp only [Prim.real] at h
    split at h
    · cases h; exact ⟨_, c, hx, rfl, by assumption, rfl⟩
    · cases h
  · rename_i c hx
    split at h
    · cases h; exact ⟨_, c, hx, rfl, by assumption, rfl⟩
    · cases h
  · rename_i c hx
    simp only [Prim.real] at h
    split at h
    · cases h; exact ⟨_, c, hx, rfl, by assumption, rfl⟩
    · cases h
  · cases h
theorem hld1_of {H : AHeap} {b o : Nat} {v : Value} (h : hld1 Prim.real H b o = some v) : ∃ x c, H[b]? = some x ∧ x.cells = some c ∧ c[o]? = some v := by
  unfold hld1 at h
  split at h
  · rename_i c hx; exact ⟨_, c, hx, rfl, h⟩
  · rename_i c hx; exact ⟨_, c, hx, rfl, h⟩
  · rename_i c hx; exact ⟨_, c, hx, rfl, h⟩
  · cases h

theorem hld_sound (hR : R ng E H w) {b o n : Nat} {l : List Value} (h : hld Prim.real H b o n = some l) :
    ∃ l' : List Value, l'.length = n ∧ (∀ j v, l'[j]? = some v → w.cell? (Addr.add ⟨(E b).blk, (E b).sh + o, none⟩ j) = some v) ∧ PL E H.dom l l' := by
  obtain ⟨x, c, hx, hc, hle, hh⟩ := hld_of h
  · · · skip
        subst hh
        obtain ⟨c', t, fz, h1, h2, h3⟩ := hR.cells hx hc
        refine ⟨(c'.toList.drop ((E b).sh + o)).take n, by simp; omega, fun j v hv => ?_, by simp; omega, fun j hj => ?_⟩
        · have hj : j < n := by
            rcases Nat.lt_or_ge j n with hl | hl
            · exact hl
            · rw [List.getElem?_eq_none (by simp; omega)] at hv; cases hv
          rw [List.getElem?_take, if_pos hj, List.getElem?_drop] at hv
          have : Addr.add ⟨(E b).blk, (E b).sh + o, none⟩ j = ⟨(E b).blk, (E b).sh + o + j, none⟩ := by
            unfold Addr.add; split
            · subst j; rfl
            · rfl
          rw [this, cell_of w _ _ h1, ← hv]
          simp
        · simp only [List.length_take, List.length_drop] at hj
          have := h3 (o + j) (by omega)
          simp only [List.getD_eq_getElem?_getD, List.getElem?_take, if_pos (show j < n by omega), List.getElem?_drop] at this ⊢
          rw [Array.getD_eq_getD_getElem?] at this
          simpa [Nat.add_assoc] using this

theorem hld1_sound (hR : R ng E H w) {b o : Nat} {v : Value} (h : hld1 Prim.real H b o = some v) :
    ∃ v', w.cell? ⟨(E b).blk, (E b).sh + o, none⟩ = some v' ∧ VR E H.dom v v' := by
  obtain ⟨x, c, hx, hc, h⟩ := hld1_of h
  · · skip
      obtain ⟨c', t, fz, h1, h2, h3⟩ := hR.cells hx hc
      have ho : o < c.length := by
        rcases Nat.lt_or_ge o c.length with hl | hl
        · exact hl
        · rw [List.getElem?_eq_none hl] at h; cases h
      have h4 := h3 o ho
      rw [List.getD_eq_getElem?_getD, h, Array.getD_eq_getD_getElem?, Array.getElem?_eq_getElem (by omega)] at h4
      exact ⟨_, (cell_of w _ _ h1).trans (Array.getElem?_eq_getElem (by omega)), h4⟩

theorem splice_length (c vs : List Value) (o : Nat) (h : o + vs.length ≤ c.length) : (splice c o vs).length = c.length := by
  simp [splice]; omega
theorem splice_get (c vs : List Value) (o j : Nat) (h : o + vs.length ≤ c.length) :
    (splice c o vs).getD j undef = if o ≤ j ∧ j < o + vs.length then vs.getD (j - o) undef else c.getD j undef := by
  unfold splice
  simp only [List.getD_eq_getElem?_getD]
  by_cases h1 : j < o
  · rw [List.getElem?_append_left (by simp; omega), if_neg (by omega), List.getElem?_take, if_pos h1]
  · rw [List.getElem?_append_right (by simp; omega), show (c.take o).length = o by simp; omega]
    by_cases h2 : j < o + vs.length
    · rw [List.getElem?_append_left (by omega), if_pos ⟨by omega, h2⟩]
    · rw [List.getElem?_append_right (by omega), if_neg (by omega), List.getElem?_drop]
      congr 2
      omega

/-- A store: the real cells, one behind the other. -/
theorem PS.set {c vs vs' : List Value} {sh o : Nat} {c' : Array Value} (h : PS E H.dom c sh c') (hv : PL E H.dom vs vs') (ho : o + vs.length ≤ c.length) :
    PS E H.dom (splice c o vs) sh (setA c' (sh + o) vs') := by
  have hs := h.1
  have hl := hv.1
  refine ⟨by rw [splice_length _ _ _ ho, setA_size]; exact hs, fun j hj => ?_⟩
  rw [splice_length _ _ _ ho] at hj
  rw [splice_get _ _ _ _ ho, setA_get _ _ _ _ (by omega)]
  by_cases h1 : o ≤ j ∧ j < o + vs.length
  · rw [if_pos h1, if_pos (by omega), show sh + j - (sh + o) = j - o by omega]
    exact hv.2 _ (by omega)
  · rw [if_neg h1, if_neg (by omega)]
    exact h.2 j hj

theorem run_storeCells_ab (P : Program) (b o : Nat) : ∀ (vs : List Value) (i : Nat) (w : World) {c : Array Value} {t : TypeId} {lo hi : Nat}, w.heap[b]? = some (.cells c t (lo, hi)) → (c.size ≤ lo ∨ hi ≤ lo) →
    o + i + vs.length ≤ c.size → (∀ v ∈ vs, v.oneCell' = true) → (storeCells ⟨b, o, none⟩ vs i).run P w = .ok () (setCells w b (o + i) vs)
  | [], i, w, c, t, lo, hi, _, _, _, _ => rfl
  | v :: vs, i, w, c, t, lo, hi, hb, hf, hs, ho => by
    simp only [List.length_cons] at hs
    have hadd : Addr.add ⟨b, o, none⟩ i = ⟨b, o + i, none⟩ := by
      unfold Addr.add; split
      · subst i; rfl
      · rfl
    have hc : w.cell? ⟨b, o + i, none⟩ = some c[o + i] := (cell_of w _ _ hb).trans (Array.getElem?_eq_getElem (by omega))
    have hfz : w.frozen? ⟨b, o + i, none⟩ = false := by
      simp only [World.frozen?, hb, Bool.and_eq_false_iff, decide_eq_false_iff_not]
      omega
    simp only [storeCells, hadd, Sem.run_bind, run_store P w _ v .plain (ho v (by simp)), hc, hfz, Result.andThen, setCells]
    have h2 := run_storeCells_ab P b o vs (i + 1) (w.setCell ⟨b, o + i, none⟩ v) (c := c.setIfInBounds (o + i) v) (t := t) (lo := lo) (hi := hi) (heap_setCell_eq w b _ v hb) (by simpa using hf) (by simp; omega) fun x hx => ho x (by simp [hx])
    simpa [Nat.add_assoc] using h2

/-- What a store into the small world says of the real one. -/
theorem hst_sound (P : Program) (hR : R ng E H w) {b o : Nat} {vs vs' : List Value} {H1 : AHeap} (h : hst Prim.real H b o vs = some H1) (hv : PL E H.dom vs vs') (h1 : ∀ v ∈ vs', v.oneCell' = true) :
    ∃ w1, (storeCells ⟨(E b).blk, (E b).sh + o, none⟩ vs').run P w = .ok () w1 ∧ R ng E H1 w1 ∧ Fr H.dom E H w E H1 w1 ∧ H1.dom = H.dom := by
  unfold hst at h
  have hl := hv.1
  split at h
  · rename_i ty c hc
    split at h
    · rename_i hle
      cases h
      obtain ⟨c', t, hb, hps, hez, hsh, hsz⟩ := hR.obj b _ hc
      refine ⟨_, run_storeCells_ab P _ _ vs' 0 w hb (.inr (Nat.le_refl _)) (by have := hps.1; omega) h1, ?_⟩
      have := hR.write (w' := setCells w (E b).blk ((E b).sh + o + 0) vs') ⟨_, hc, rfl⟩ (.var ty (splice c o vs)) (setCells_size _ _ _ _) (fun b' hb' => setCells_ne _ _ _ _ _ hb')
        ⟨_, t, setCells_eq _ _ _ _ hb, by simpa using hps.set hv hle, hez, hsh, by rw [setA_size, splice_length _ _ _ hle]; exact hsz.1, hsz.2⟩ (fun r h => by rw [hb] at h; cases h) (setCells_env _ _ _ _)
      exact ⟨this.1, this.2, dom_set⟩
    · cases h
  · rename_i t sz c hc
    split at h
    · rename_i c1 hc1
      cases h
      simp only [Prim.real] at hc1
      have hle : o + vs.length ≤ c.length := by
        by_cases hh : o + vs.length ≤ c.length
        · exact hh
        · rw [if_neg hh] at hc1; cases hc1
      rw [if_pos hle] at hc1
      cases hc1
      obtain ⟨c', lo, hi, hb, hps, hez, hlim, hfz⟩ := hR.obj b _ hc
      refine ⟨_, run_storeCells_ab P _ _ vs' 0 w hb (hfz.imp id Nat.le_of_eq) (by have := hps.1; omega) h1, ?_⟩
      have := hR.write (w' := setCells w (E b).blk ((E b).sh + o + 0) vs') ⟨_, hc, rfl⟩ (.row t sz (splice c o vs)) (setCells_size _ _ _ _) (fun b' hb' => setCells_ne _ _ _ _ _ hb')
        ⟨_, lo, hi, setCells_eq _ _ _ _ hb, by simpa using hps.set hv hle, hez, by rw [setA_size]; exact hlim, by rw [setA_size]; exact hfz⟩ (fun r h => by rw [hb] at h; cases h) (setCells_env _ _ _ _)
      exact ⟨this.1, this.2, dom_set⟩
    · cases h
  · cases h
end mem
end Go.Ab
