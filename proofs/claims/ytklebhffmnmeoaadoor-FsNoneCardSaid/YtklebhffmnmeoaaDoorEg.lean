/- The engine, part 7: composites, new slices, slicing, indexing. -/
import Derived.Test.YtklebhffmnmeoaaDoorEf
namespace Go.Ab
open Go

theorem zipIdx_foldl (off : Nat) : ∀ (l : List Value) (k : Nat) (cs : Array Value), (l.zipIdx k).foldl (fun cs (x : Value × Nat) => cs.setIfInBounds (off + x.2) x.1) cs = setA cs (off + k) l
  | [], _, _ => rfl
  | v :: l, k, cs => by
    simp only [List.zipIdx_cons, List.foldl_cons, setA]
    rw [zipIdx_foldl off l (k + 1), Nat.add_assoc]
theorem fill_foldl (off : Nat) (a cs : Array Value) : a.zipIdx.foldl (fun cs (x : Value × Nat) => cs.setIfInBounds (off + x.2) x.1) cs = setA cs off a.toList := by
  have := zipIdx_foldl off a.toList 0 cs
  rw [Nat.add_zero] at this
  rw [← this, ← Array.foldl_toList]
  simp

theorem fill_size (place : Nat → Option (Nat × Nat)) (ps : List (Nat × Value)) : ∀ (cs r : Array Value), Instr.fill place cs ps = some r → r.size = cs.size := by
  induction ps with
  | nil => intro cs r h; simp only [Instr.fill] at h; cases h; rfl
  | cons x ps ih =>
    intro cs r h
    obtain ⟨i, v⟩ := x
    simp only [Instr.fill] at h
    split at h
    · cases h
    · split at h
      · cases h
      · have := ih _ _ h
        rw [this, fill_foldl, setA_size]

/-- Parts, one by one. -/
def PP (E : Emb) (n : Dom) (ps ps' : List (Nat × Value)) : Prop := ps.length = ps'.length ∧ ∀ (j : Nat) (x : Nat × Value), ps[j]? = some x → ∃ x' : Nat × Value, ps'[j]? = some x' ∧ x'.1 = x.1 ∧ VR E n x.2 x'.2

theorem afill_sound {E : Emb} {n : Dom} (place : Nat → Option (Nat × Nat)) : ∀ (ps ps' : List (Nat × Value)) (cells : List Value) (cells' : Array Value) (r : List Value), PP E n ps ps' → PL E n cells cells'.toList →
    afill place cells ps = some r → ∃ r', Instr.fill place cells' ps' = some r' ∧ PL E n r r'.toList
  | [], ps', cells, cells', r, hp, hc, h => by
    have : ps' = [] := List.eq_nil_of_length_eq_zero hp.1.symm
    subst this
    simp only [afill] at h
    cases h
    exact ⟨cells', rfl, hc⟩
  | x :: ps, ps', cells, cells', r, hp, hc, h => by
    obtain ⟨x', hx', hi, hv⟩ := hp.2 0 x rfl
    cases ps' with
    | nil => cases hx'
    | cons y ps' =>
      obtain rfl : y = x' := by simpa using hx'
      simp only [afill] at h
      split at h
      · rename_i os hos
        split at h
        · rename_i hk
          split at h
          · rename_i hsz
            split at h
            · rename_i hle
              have hcl := hv.cells hk
              have hl := hc.1
              have hcs : y.2.cells.size = x.2.cells.size := by have := hcl.1; simp at this; omega
              obtain ⟨r', h1, h2⟩ := afill_sound place ps ps' _ (setA cells' os.1 y.2.cells.toList) r
                ⟨by have := hp.1; simp at this; exact this, fun j z hz => hp.2 (j + 1) z hz⟩
                (by
                  refine ⟨by rw [splice_length _ _ _ (by simp; omega)]; simp [setA_size]; simpa using hl, fun j hj => ?_⟩
                  rw [splice_length _ _ _ (by simp; omega)] at hj
                  rw [getD_toList (setA _ _ _), splice_get _ _ _ _ (by simp; omega), setA_get _ _ _ _ (by simp at hl ⊢; omega)]
                  by_cases hb : os.1 ≤ j ∧ j < os.1 + x.2.cells.toList.length
                  · rw [if_pos hb, if_pos (by have := hcl.1; omega)]
                    exact hcl.2 _ (by omega)
                  · rw [if_neg hb, if_neg (by have := hcl.1; omega), ← getD_toList cells']
                    exact hc.2 j hj) h
              refine ⟨r', ?_, h2⟩
              obtain ⟨i, v⟩ := y
              simp only at hi hcs
              have hb : ¬ ((v.cells.size ≠ os.2 || decide (os.1 + v.cells.size > cells'.size)) = true) := by
                simp at hl ⊢
                omega
              simp only [Instr.fill, hi, hos, if_neg hb]
              rw [fill_foldl]
              exact h1
            · cases h
          · cases h
        · cases h
      · cases h

section
variable {P : Program} {T : Tab} {E : Emb} {H : AHeap} {w : World}

theorem aplaces_run (hT : TabOK P T) (w : World) : ∀ (fs : List Field) (pl : List (Nat × Nat)), aplaces T (fs.map stripF) = some pl → (fs.mapM fun f => Prod.mk f.offset <$> sizeOf f.type).run P w = .ok pl w
  | [], pl, h => by simp only [List.map_nil, aplaces] at h; cases h; rfl
  | f :: fs, pl, h => by
    simp only [List.map_cons, aplaces] at h
    split at h
    · rename_i j hj
      split at h
      · rename_i r hr
        cases h
        have hj' : T.ty f.type = some j := hj
        simp [List.mapM_cons, run_size hT hj', aplaces_run hT w fs r hr, stripF]
      · cases h
    · cases h

theorem abuild_sound (hT : TabOK P T) (hR : R T.ng E H w) {t : TypeId} {ps : List (Nat × Value)} {ps' : Array (Nat × Value)} {v : Value} (hp : PP E H.dom ps ps'.toList)
    (h : abuild T t ps = some v) : DoesV P T.ng E H w (Instr.build t ps') v H := by
  unfold abuild at h
  split at h
  · rename_i i hi
    have hz := flat_self (E := E) (n := H.dom) (hT.flat t i hi).1
    split at h
    · rename_i fields hd
      split at h
      · rename_i pl hpl
        split at h
        · rename_i cells hcells
          cases h
          obtain ⟨r', h1, h2⟩ := afill_sound _ _ _ _ i.zero.cells _ hp hz hcells
          refine .here hR (v' := .agg r') ?_ (.agg (by have := h2.1; simp at this; simpa using this) fun j hj => ?_)
          · obtain ⟨fs', g1, g2⟩ := run_struct hT hi hd w
            rw [g2, Array.toList_map] at hpl
            have hm := aplaces_run hT w _ _ hpl
            simp [Instr.build, run_zero hT hi, g1, Array.mapM_eq_mapM_toList, hm, h1]
          · rw [getD_toArray]
            have := h2.2 j (by simpa using hj)
            rwa [getD_toList r'] at this
        · cases h
      · cases h
    · rename_i e hd
      split at h
      · rename_i j hj
        split at h
        · rename_i cells hcells
          cases h
          obtain ⟨r', h1, h2⟩ := afill_sound _ _ _ _ i.zero.cells _ hp hz hcells
          refine .here hR (v' := .agg r') ?_ (.agg (by have := h2.1; simp at this; simpa using this) fun j hj => ?_)
          · simp [Instr.build, run_zero hT hi, run_und hT hi hd rfl, run_size hT hj, h1]
          · rw [getD_toArray]
            have := h2.2 j (by simpa using hj)
            rwa [getD_toList r'] at this
        · cases h
      · cases h
    · cases h
  · cases h

theorem azeros_length (z : List Value) : ∀ n, (azeros z n).length = n * z.length
  | 0 => by simp [azeros]
  | n + 1 => by simp [azeros, azeros_length z n, Nat.add_mul]; omega
theorem azeros_get (z : List Value) : ∀ (n k : Nat), k < n * z.length → (azeros z n)[k]? = z[k % z.length]?
  | 0, k, h => by simp at h
  | n + 1, k, h => by
    rw [Nat.add_mul, Nat.one_mul] at h
    by_cases hk : k < z.length
    · rw [azeros, List.getElem?_append_left hk, Nat.mod_eq_of_lt hk]
    · rw [azeros, List.getElem?_append_right (by omega), azeros_get z n _ (by omega), ← Nat.mod_eq_sub_mod (by omega)]
theorem azeros_flat (z : List Value) (hz : z.all flat = true) : ∀ n, (azeros z n).all flat = true
  | 0 => rfl
  | n + 1 => by simp only [azeros, List.all_append, hz, azeros_flat z hz n, Bool.and_self]
theorem azeros_real (z : Array Value) (n : Nat) : (Array.range (n * z.size)).map (fun k => z[k % z.size]!) = (azeros z.toList n).toArray := by
  apply Array.ext'
  simp only [Array.toList_map, Array.toList_range]
  apply List.ext_getElem?
  intro k
  by_cases hk : k < n * z.size
  · rw [azeros_get _ _ _ (by simpa using hk)]
    have hz : 0 < z.size := by
      rcases Nat.eq_zero_or_pos z.size with h | h
      · rw [h] at hk; simp at hk
      · exact h
    have hm : k % z.size < z.size := Nat.mod_lt _ hz
    simp [hk, hm, getElem!_pos]
  · rw [List.getElem?_eq_none (by simpa using hk), List.getElem?_eq_none (by rw [azeros_length]; simpa using hk)]

theorem abuildSlice_sound (hT : TabOK P T) (hR : R T.ng E H w) {t : TypeId} {len : Nat} {ps : List (Nat × Value)} {ps' : Array (Nat × Value)} {v : Value} {H1 : AHeap} (hp : PP E H.dom ps ps'.toList)
    (h : abuildSlice T H t len ps = some (some v, H1)) : DoesV P T.ng E H w (Instr.buildSlice t len ps') v H1 := by
  unfold abuildSlice at h
  split at h
  · rename_i i hi
    split at h
    · rename_i e hd
      split at h
      · rename_i j hj
        split at h
        · rename_i hle
          have hsz := (hT.flat e j hj).2
          have hfl := (hT.flat e j hj).1
          split at h
          · rename_i cells hcells
            obtain ⟨hr, hv, hH⟩ := anew_some h
            cases hv; subst hH
            have hz := flat_self (E := E) (n := H.dom) (azeros_flat _ hfl len)
            obtain ⟨r', h1, h2⟩ := afill_sound _ _ _ _ (azeros j.zero.cells.toList len).toArray _ hp (by simpa using hz) hcells
            have hrl : r'.size = len * j.size := by
              rw [fill_size _ _ _ _ h1]
              simp [azeros_length, hsz]
            have hpl : PL E H.dom cells r'.toList := h2
            obtain ⟨h3, h4⟩ := arow_sound (T := T) hr hR e j.size cells r'.toList [] 0 0 (.inr rfl) hpl
            refine ⟨_, _, .slice (some ⟨w.heap.size, 0, none⟩) len len, ?_, ?_, h3, h4, dom_push hr⟩
            · have hn : ¬ (16777216 < len * j.size) := by omega
              by_cases h0 : len * j.size = 0
              · have hnil : (azeros j.zero.cells.toList len).toArray = #[] := by
                  apply Array.eq_empty_of_size_eq_zero
                  simp [azeros_length, hsz, h0]
                rw [hnil] at h1
                simp [Instr.buildSlice, run_und hT hi hd rfl, run_size hT hj, h0, newRow]
                rw [show (Array.map (fun _ => (default : Value)) (Array.range 0)) = #[] from (by apply Array.ext'; simp), h1]
                simp
              · have hzr := azeros_real j.zero.cells len
                rw [hsz] at hzr
                simp [Instr.buildSlice, run_und hT hi hd rfl, run_size hT hj, h0, hn, run_zero hT hj, hsz, newRow]
                simp only [hzr] at h1 ⊢
                simp [h1]
            · have := VR.slice (E := upd E H.next ⟨w.heap.size, 0, r'.toList.length + ([] : List Value).length, j.size⟩) (n := (H.push (AObj.row e j.size cells)).dom) (b := H.next) (o := 0) (len := len) (c := len) (o' := 0) (c' := len) (push_dom hr) (Nat.le_refl _) (by simp) (Nat.le_refl _) (by
                rw [upd_same]; intro _; simp [hrl])
              simpa using this
          · cases h
        · cases h
      · cases h
    · cases h
  · cases h
end
end Go.Ab
