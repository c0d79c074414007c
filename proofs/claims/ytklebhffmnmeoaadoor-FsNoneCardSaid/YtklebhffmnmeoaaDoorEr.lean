/- The engine, part 9a: making slices, appending, copying, converting. -/
import Derived.Test.YtklebhffmnmeoaaDoorEi
import Derived.IntWalk
namespace Go.Ab
open Go

section
variable {P : Program} {T : Tab} {E : Emb} {H : AHeap} {w : World}

theorem R.sameHeap {ng : Nat} {E : Emb} {H H1 : AHeap} {w w1 w' : World} {N : Dom} {E1 : Emb} (h : R ng E1 H1 w1 ∧ Fr N E H w E1 H1 w1) (hw : w'.heap = w1.heap) (he : Env w1 w') : R ng E1 H1 w' ∧ Fr N E H w E1 H1 w' :=
  ⟨h.1.heapEq hw, h.2.trans (.heapEq hw he)⟩

theorem run_bytes (hT : TabOK P T) {t : TypeId} {i : TI} (h : T.ty t = some i) (w : World) : ∃ info, (typeInfo t).run P w = .ok info w ∧ info.bytes = i.bytes := by
  obtain ⟨info, h1, _, h2, _⟩ := run_info hT h w
  exact ⟨info, h1, h2⟩

theorem askRoom_run (n : Nat) (w : World) : (askRoom n).run P w = .ok () w := by
  unfold askRoom
  split <;> simp

theorem wrap_small (n : Int) (h0 : 0 ≤ n) (h1 : n ≤ 4294967296) : IntKind.i64.wrap n = n := by
  exact IntWalk.i64_in _ ⟨by omega, by omega⟩

theorem amakeSlice_sound (hT : TabOK P T) (hR : R T.ng E H w) {t : TypeId} {len cap len' cap' v : Value} {H1 : AHeap} (hl : VR E H.dom len len') (hc : VR E H.dom cap cap')
    (h : amakeSlice T H t len cap = some (some v, H1)) : DoesV P T.ng E H w (Instr.makeSlice t len' cap') v H1 := by
  unfold amakeSlice at h
  rw [hT.prim] at h
  split at h
  · rename_i i hi
    split at h
    · rename_i e hd
      split at h
      · rename_i j hj
        split at h
        · rename_i k l k' c
          have e1 := hl.int; have e2 := hc.int; subst e1 e2
          split at h
          · rename_i h0
            split at h
            · rename_i h1
              split at h
              · rename_i h2
                have h0 : 0 ≤ l := of_decide_eq_true h0
                have h1 : l ≤ c := of_decide_eq_true h1
                have h2 : c ≤ 4294967296 := of_decide_eq_true h2
                split at h
                · rename_i hb
                  obtain ⟨hr0, hv0, hH1⟩ := anew_some h
                  cases hv0; subst hH1
                  obtain ⟨info, hi1, hi2⟩ := run_bytes hT hj w
                  have hsz := (hT.flat e j hj).2
                  have hfl := (hT.flat e j hj).1
                  have hz := flat_self (E := E) (n := H.dom) (azeros_flat _ hfl c.toNat)
                  obtain ⟨h3, h4⟩ := arow_sound (T := T) hr0 hR e j.size (azeros j.zero.cells.toList c.toNat) (azeros j.zero.cells.toList c.toNat) [] 0 0 (.inr rfl) hz
                  refine ⟨_, _, .slice (some ⟨w.heap.size, 0, none⟩) l.toNat c.toNat, ?_, ?_, h3, h4, dom_push hr0⟩
                  · have hbc : (j.bytes : Int) * c ≤ 2 ^ 48 := by
                      have : (j.bytes : Int) * c ≤ 16384 * 4294967296 := Int.mul_le_mul (by omega) h2 (by omega) (by omega)
                      omega
                    have hr := azeros_real j.zero.cells c.toNat
                    rw [hsz] at hr
                    have hn : ¬ (c < 0 ∨ j.bytes * c > 2 ^ 48) := by omega
                    by_cases hn0 : c.toNat * j.size = 0
                    · have hnil : (azeros j.zero.cells.toList c.toNat).toArray = #[] := by
                        apply Array.eq_empty_of_size_eq_zero
                        simp [azeros_length, hsz, hn0]
                      have hnil' : azeros j.zero.cells.toList c.toNat = [] := by
                        have := congrArg Array.toList hnil
                        simpa using this
                      simp [Instr.makeSlice, run_und hT hi hd rfl, asInt, asIntOf, wrap_small l h0 (by omega), wrap_small c (by omega) h2, hi1, hi2, hn0, hnil', newRow, askRoom_run, run_size hT hj, show ¬ c < 0 by omega, show ¬ l < 0 by omega, show ¬ c < l by omega, show ¬ (281474976710656 : Int) < j.bytes * c by omega]
                      rw [show (Array.map (fun _ => (default : Value)) (Array.range 0)) = #[] from (by apply Array.ext'; simp)]
                    · simp [Instr.makeSlice, run_und hT hi hd rfl, asInt, asIntOf, wrap_small l h0 (by omega), wrap_small c (by omega) h2, hi1, hi2, hn0, newRow, askRoom_run, run_size hT hj, run_zero hT hj, show ¬ c < 0 by omega, show ¬ l < 0 by omega, show ¬ c < l by omega, show ¬ (281474976710656 : Int) < j.bytes * c by omega, hsz, hr]
                  · have := VR.slice (E := upd E H.next ⟨w.heap.size, 0, (azeros j.zero.cells.toList c.toNat).length + ([] : List Value).length, j.size⟩) (n := (H.push (AObj.row e j.size (azeros j.zero.cells.toList c.toNat))).dom) (b := H.next) (o := 0) (len := l.toNat) (c := c.toNat) (o' := 0) (c' := c.toNat) (push_dom hr0) (by omega) (by simp) (Nat.le_refl _) (by
                      rw [upd_same]; intro _; simp [azeros_length, hsz])
                    simpa [Prim.real] using this
                · cases h
              · cases h
            · cases h
          · cases h
        · cases h
      · cases h
    · cases h
  · cases h

theorem growBy_le (need : Nat) : ∀ (r c : Nat), c < need + (need + 768) → Builtin.growBy need r c ≤ 4 * need + 1536
  | 0, c, h => by simp only [Builtin.growBy]; omega
  | r + 1, c, h => by
    simp only [Builtin.growBy]
    split
    · omega
    · exact growBy_le need r _ (by omega)

theorem slicecap_le (need old : Nat) (h : old < need) : Builtin.nextslicecap need old ≤ 4 * need + 1536 := by
  unfold Builtin.nextslicecap
  split
  · omega
  · split
    · omega
    · exact growBy_le need 4 old (by omega)

theorem appendCap_run (need old : Nat) (e : TypeId) (hn : need < 2 ^ 63) (w : World) : ∃ c w', (choose (.appendCap need old e)).run P w = .ok c w' ∧ need ≤ c ∧ w'.heap = w.heap := by
  rw [run_choose_drew]
  have : (Question.appendCap need old e).forced = false := rfl
  rw [this]
  exact ⟨_, _, rfl, by simp [Question.cut], rfl⟩

def zform : TypeDesc → Bool
  | .int _ => true
  | _ => false

/-- What is appended, in the real world. -/
structure Appd (P : Program) (w : World) (e tx : TypeId) (j : TI) (x' : Value) (n : Nat) (xs' : List Value) : Prop where
  len : xs'.length = n * j.size
  how : (∃ d, (∀ w1, (underlying tx).run P w1 = .ok d w1) ∧ zform d = false ∧ (Builtin.lenOf x').run P w = .ok n w ∧ ∀ w1 : World, w1.heap = w.heap → (Builtin.firstCells j.size n x').run P w1 = .ok xs'.toArray w1) ∨
    (∃ d k, (∀ w1, (underlying tx).run P w1 = .ok d w1) ∧ zform d = true ∧ x' = .int k n ∧ n ≤ 4294967296 ∧ xs'.toArray = (azeros j.zero.cells.toList n).toArray)

theorem run_und' (hT : TabOK P T) {t : TypeId} {i : TI} (h : T.ty t = some i) : ∃ d, (∀ w : World, (underlying t).run P w = .ok d w) ∧ zform d = zform i.desc := by
  obtain ⟨⟨d, h1, h2⟩, _⟩ := hT.ty t i h
  refine ⟨d, fun w => run_underlying h1 w, ?_⟩
  rw [← h2]
  cases d <;> rfl

theorem aappended_sound (hT : TabOK P T) (hR : R T.ng E H w) {e : TypeId} {j : TI} (hj : T.ty e = some j) {tx : TypeId} {x x' : Value} (hx : VR E H.dom x x') {n : Nat} {xs : List Value} (h : aappended T H j tx x = some (n, xs)) :
    ∃ xs' : List Value, Appd P w e tx j x' n xs' ∧ PL E H.dom xs xs' := by
  unfold aappended at h
  rw [hT.prim] at h
  have hsz := (hT.flat e j hj).2
  have hfl := (hT.flat e j hj).1
  split at h
  · rename_i i hi
    obtain ⟨d, hd, hz⟩ := run_und' hT hi
    split at h
    · rename_i k k' l hdi
      have e1 := hx.int; subst e1
      split at h
      · rename_i h0
        split at h
        · rename_i h1
          cases h
          have h0 : 0 ≤ l := of_decide_eq_true h0
          have h1 : l ≤ 4294967296 := of_decide_eq_true h1
          refine ⟨azeros j.zero.cells.toList l.toNat, ⟨?_, .inr ⟨d, k', hd, by rw [hz, hdi]; rfl, ?_, by simp only [Prim.real]; omega, rfl⟩⟩, flat_self (azeros_flat _ hfl _)⟩
          · simp [azeros_length, hsz, Prim.real]
          · simp only [Prim.real]; rw [Int.toNat_of_nonneg h0]
        · cases h
      · cases h
    · rename_i k hdi
      cases h
      obtain ⟨e1, _⟩ := hx.nilSlice
      subst e1
      exact ⟨[], ⟨by simp, .inl ⟨d, hd, by rw [hz, hdi]; rfl, by simp [Builtin.lenOf], fun w1 _ => by simp [Builtin.firstCells]⟩⟩, rfl, fun j hj => absurd hj (by simp)⟩
    · rename_i k b o m c hdi
      obtain ⟨o', c', hb, rfl, g0, g1, g2, g3⟩ := hx.slicep
      split at h
      · rename_i h0
        cases h
        have h0 : m ≤ 0 := of_decide_eq_true h0
        have : m = 0 := by omega
        subst this
        refine ⟨[], ⟨by simp, .inl ⟨d, hd, by rw [hz, hdi]; rfl, by simp [Builtin.lenOf], fun w1 _ => ?_⟩⟩, rfl, fun j hj => absurd hj (by simp)⟩
        have h1 := run_loadCells_list (P := P) w1 ⟨(E b).blk, o', none⟩ [] (fun i v hv => by simp at hv)
        simpa [Builtin.firstCells] using h1
      · rename_i h0
        have h0 : ¬ m ≤ 0 := of_decide_eq_false h0
        split at h
        · rename_i l hl
          cases h
          obtain ⟨l', hn, hc, hpl⟩ := hld_sound hR hl
          have ho := g1 (by omega)
          subst ho
          refine ⟨l', ⟨hn, .inl ⟨d, hd, by rw [hz, hdi]; rfl, by simp [Builtin.lenOf], fun w1 hw => ?_⟩⟩, hpl⟩
          have h1 := run_loadCells_list (P := P) w1 ⟨(E b).blk, (E b).sh + o, none⟩ l' (fun i v hv => by
            have := hc i v hv
            unfold World.cell? at this ⊢
            rw [hw]
            exact this)
          rw [hn] at h1
          exact h1
        · cases h
    · rename_i s hdi
      have e1 := hx.string; subst e1
      split at h
      · rename_i hs1
        cases h
        refine ⟨s.data.toList.map fun b => .int .u8 b.toNat, ⟨?_, .inl ⟨d, hd, by rw [hz, hdi]; rfl, ?_, fun w1 _ => ?_⟩⟩, ?_⟩
        · simp [Prim.real, hs1]
        · simp [Builtin.lenOf, Prim.real]
        · simp only [Builtin.firstCells, Prim.real, Sem.run_pure]
          congr 1
          apply Array.ext'
          have : s.extract 0 (Int.toNat s.size) = s := by
            apply ByteArray.ext
            rw [ByteArray.data_extract]
            apply Array.ext'
            simp [Array.toList_extract]
            rw [List.take_of_length_le]
            simp
          rw [this]
          simp
        · simp only [Prim.real]
          refine flat_self ?_
          rw [List.all_eq_true]
          intro v hv
          rw [List.mem_map] at hv
          obtain ⟨b, _, rfl⟩ := hv
          rfl
      · cases h
    · cases h
  · cases h

theorem zeroCells_real (z : Array Value) (n : Nat) : Builtin.zeroCells z n = (azeros z.toList n).toArray := azeros_real z n

theorem zform_no {d : TypeDesc} (h : zform d = false) (k : IntKind) : d = .int k → False := by rintro rfl; cases h
theorem zform_yes {d : TypeDesc} (h : zform d = true) : ∃ k, d = .int k := by cases d <;> first | exact ⟨_, rfl⟩ | cases h

/-- The real append: in its place. -/
theorem append_in (hT : TabOK P T) {t e tx : TypeId} {i j : TI} (hi : T.ty t = some i) (hd : i.desc = .slice e) (hj : T.ty e = some j) (hb : j.bytes ≤ 16384) {ty : TypeId} {x' : Value} {n : Nat} {xs' : List Value}
    (ha : Appd P w e tx j x' n xs') {base : Option Addr} {sl sc : Nat} (hle : sl + n ≤ sc) {w1 : World} (hs : ∀ a, base = some a → (storeCells (a.add (sl * j.size)) xs').run P w = .ok () w1) (hn : base = none → w1 = w) :
    (Builtin.append_ #[t, tx] ty #[.slice base sl sc, x']).run P w = .ok (.slice base (sl + n) sc) w1 := by
  have hsz := (hT.flat e j hj).2
  obtain ⟨info, hi1, hi2⟩ := run_bytes hT hj w
  rcases ha.how with ⟨d, g1, g2, g3, g4⟩ | ⟨d, k, g1, g2, rfl, g3, g4⟩
  · have g4 := g4 w rfl
    have g2 := zform_no g2
    cases base with
    | none =>
      have := hn rfl; subst this
      simp [Builtin.append_, run_und hT hi hd rfl, run_size hT hj, g1, g2, g3, hle, g4]
    | some a =>
      simp [Builtin.append_, run_und hT hi hd rfl, run_size hT hj, g1, g2, g3, hle, g4, hs a rfl]
  · obtain ⟨kk, rfl⟩ := zform_yes g2
    have hbn : ¬ ((281474976710656 : Int) < (n : Int) * j.bytes) := by
      have : (n : Int) * j.bytes ≤ 4294967296 * 16384 := Int.mul_le_mul (by omega) (by omega) (by omega) (by omega)
      omega
    have hw : IntKind.i64.wrap (n : Int) = n := wrap_small _ (by omega) (by omega)
    have hneg : ¬ ((n : Int) < 0) := by omega
    by_cases h0 : n * j.size = 0
    · have : xs' = [] := List.eq_nil_of_length_eq_zero (by rw [ha.len]; exact h0)
      subst this
      cases base with
      | none =>
        have := hn rfl; subst this
        simp [Builtin.append_, run_und hT hi hd rfl, run_size hT hj, g1, hle, asInt, asIntOf, hw, hneg, hi1, hi2, hbn, h0]
      | some a =>
        simp [Builtin.append_, run_und hT hi hd rfl, run_size hT hj, g1, hle, asInt, asIntOf, hw, hneg, hi1, hi2, hbn, h0, hs a rfl]
    · cases base with
      | none =>
        have := hn rfl; subst this
        simp [Builtin.append_, run_und hT hi hd rfl, run_size hT hj, g1, hle, asInt, asIntOf, hw, hneg, hi1, hi2, hbn, h0, run_zero hT hj, zeroCells_real, ← g4]
      | some a =>
        simp [Builtin.append_, run_und hT hi hd rfl, run_size hT hj, g1, hle, asInt, asIntOf, hw, hneg, hi1, hi2, hbn, h0, run_zero hT hj, zeroCells_real, ← g4, hs a rfl]

/-- The real append: in a new array. -/
theorem append_out (hT : TabOK P T) {t e tx : TypeId} {i j : TI} (hi : T.ty t = some i) (hd : i.desc = .slice e) (hj : T.ty e = some j) (hb : j.bytes ≤ 16384) {ty : TypeId} {x' : Value} {n : Nat} {xs' : List Value}
    (ha : Appd P w e tx j x' n xs') {base : Option Addr} {sl sc : Nat} (hlt : sc < sl + n) (hsm : sl + n ≤ 1073741824) {old : List Value}
    (ho : ∀ w1 : World, w1.heap = w.heap → (Builtin.firstCells j.size sl (.slice base sl sc)).run P w1 = .ok old.toArray w1) :
    ∃ (c' : Nat) (w1 : World) (rest : List Value), sl + n ≤ c' ∧ (w1.heap = w.heap ∧ Env w w1) ∧ rest.length = (c' - (sl + n)) * j.size ∧
      (Builtin.append_ #[t, tx] ty #[.slice base sl sc, x']).run P w = .ok (.slice (some ⟨w.heap.size, 0, none⟩) (sl + n) c') (w1.alloc (.cells (old ++ (xs' ++ rest)).toArray e)) := by
  have hsz := (hT.flat e j hj).2
  obtain ⟨info, hi1, hi2⟩ := run_bytes hT hj w
  have hi1 : ∀ w1 : World, (typeInfo e).run P w1 = .ok info w1 := fun w1 => by
    obtain ⟨info', h1, _⟩ := run_bytes hT hj w1
    obtain ⟨q, h2, h3⟩ := hT.ty e j hj |>.2
    simp [typeInfo, h2] at hi1 h1 ⊢
    exact hi1
  have hforced : (Question.appendCap (sl + n) sc e).forced = false := rfl
  have hcut : sl + n ≤ (Question.appendCap (sl + n) sc e).cut (w.tape w.drawn (Question.appendCap (sl + n) sc e)) := by simp [Question.cut]
  have hroom : ¬ (281474976710656 < Builtin.nextslicecap (sl + n) sc * j.bytes) := by
    have h1 := slicecap_le (sl + n) sc hlt
    have : Builtin.nextslicecap (sl + n) sc * j.bytes ≤ (4 * (sl + n) + 1536) * 16384 := Nat.mul_le_mul h1 hb
    omega
  have hbig : ¬ (9223372036854775807 < (sl : Int) + n) := by omega
  have hnle : ¬ (sl + n ≤ sc) := by omega
  refine ⟨(Question.appendCap (sl + n) sc e).cut (w.tape w.drawn (Question.appendCap (sl + n) sc e)), w.drew, azeros j.zero.cells.toList ((Question.appendCap (sl + n) sc e).cut (w.tape w.drawn (Question.appendCap (sl + n) sc e)) - (sl + n)), hcut, ⟨rfl, rfl, rfl, rfl⟩, by simp [azeros_length, hsz], ?_⟩
  have ho1 := ho w.drew rfl
  rcases ha.how with ⟨d, g1, g2, g3, g4⟩ | ⟨d, k, g1, g2, rfl, g3, g4⟩
  · have g4 := g4 w.drew rfl
    have g2 := zform_no g2
    simp [Builtin.append_, run_und hT hi hd rfl, run_size hT hj, g1, g2, g3, hnle, g4, hi1, hi2, hroom, hbig, askRoom_run, ho1, run_zero hT hj, zeroCells_real, newRow, hforced]
  · obtain ⟨kk, rfl⟩ := zform_yes g2
    have hbn : ¬ ((281474976710656 : Int) < (n : Int) * j.bytes) := by
      have : (n : Int) * j.bytes ≤ 4294967296 * 16384 := Int.mul_le_mul (by omega) (by omega) (by omega) (by omega)
      omega
    have hw : IntKind.i64.wrap (n : Int) = n := wrap_small _ (by omega) (by omega)
    have hneg : ¬ ((n : Int) < 0) := by omega
    by_cases h0 : n * j.size = 0
    · have : xs' = [] := List.eq_nil_of_length_eq_zero (by rw [ha.len]; exact h0)
      subst this
      simp [Builtin.append_, run_und hT hi hd rfl, run_size hT hj, g1, hnle, asInt, asIntOf, hw, hneg, hi1, hi2, hbn, h0, hroom, hbig, askRoom_run, ho1, run_zero hT hj, zeroCells_real, newRow, hforced]
    · have g5 : (azeros j.zero.cells.toList n) = xs' := by
        have := congrArg Array.toList g4
        simpa using this.symm
      simp [Builtin.append_, run_und hT hi hd rfl, run_size hT hj, g1, hnle, asInt, asIntOf, hw, hneg, hi1, hi2, hbn, h0, hroom, hbig, askRoom_run, ho1, run_zero hT hj, zeroCells_real, newRow, hforced, g5]

theorem pl_append {n : Dom} {a a' b b' : List Value} (h : PL E n a a') (g : PL E n b b') : PL E n (a ++ b) (a' ++ b') := by
  have e1 := h.1
  have e2 := g.1
  refine ⟨by simp [e1, e2], fun j hj => ?_⟩
  simp only [List.getD_eq_getElem?_getD]
  by_cases hl : j < a.length
  · rw [List.getElem?_append_left hl, List.getElem?_append_left (by omega)]
    have := h.2 j hl
    simpa [List.getD_eq_getElem?_getD] using this
  · rw [List.getElem?_append_right (by omega), List.getElem?_append_right (by omega), ← e1]
    have := g.2 (j - a.length) (by simp at hj; omega)
    simpa [List.getD_eq_getElem?_getD] using this

theorem okc_cells {n : Dom} {xs xs' : List Value} (h : Prim.real.okc xs = true) (hp : PL E n xs xs') : ∀ v ∈ xs', v.oneCell' = true := by
  intro v hv
  obtain ⟨j, hj, rfl⟩ := List.mem_iff_getElem.1 hv
  have hj' : j < xs.length := by rw [hp.1]; exact hj
  have := hp.2 j hj'
  rw [List.getD_eq_getElem?_getD, List.getElem?_eq_getElem hj', List.getD_eq_getElem?_getD, List.getElem?_eq_getElem hj] at this
  have h0 : xs.all (fun v => known v && v.oneCell') = true := h
  rw [List.all_eq_true] at h0
  have h2 := h0 _ (List.getElem_mem hj')
  rw [Bool.and_eq_true] at h2
  exact this.oneCell h2.1 h2.2

/-- A row's end is written; the row becomes another of the small world's. -/
theorem regrow (hr0 : H.next < BG) (hR : R T.ng E H w) {b o' sc sz sl n : Nat} {e : TypeId} {c : List Value} (hH : H[b]? = some (.row e sz c)) {old : List Value} {xs xs' : List Value} (hsc : (E b).esz ≠ 0 → o' + sc * (E b).esz ≤ (E b).lim)
    (hle : sl + n ≤ sc) (hz : sz ≠ 0) (hold : old.length = sl * sz)
    (hrd : ∀ c' lo hi, w.heap[(E b).blk]? = some (.cells c' e (lo, hi)) → ∀ k, k < old.length → VR E H.dom (old.getD k undef) (c'.getD (o' + k) undef))
    (hx : PL E H.dom xs xs') (hxl : xs.length = n * sz) (hok : ∀ v ∈ xs', v.oneCell' = true) :
    ∃ w1 E1, (storeCells ⟨(E b).blk, o' + sl * sz, none⟩ xs').run P w = .ok () w1 ∧ R T.ng E1 ((H.set b .dead).push (.row e sz (old ++ xs))) w1 ∧ Fr H.dom E H w E1 ((H.set b .dead).push (.row e sz (old ++ xs))) w1 ∧
      (E1 H.next).blk = (E b).blk ∧ (E1 H.next).sh = o' ∧ (E1 H.next).lim = (E b).lim ∧ (E1 H.next).esz = sz := by
  obtain ⟨c', lo, hi, hb, hps, hez, hlim, hfz⟩ := hR.obj b _ hH
  have hsc := hsc (by rw [hez]; exact hz)
  rw [hez, hlim] at hsc
  have hmul : sl * sz + n * sz ≤ sc * sz := by rw [← Nat.add_mul]; exact Nat.mul_le_mul_right _ hle
  have hxl' : xs'.length = n * sz := by rw [← hx.1]; exact hxl
  have hst := run_storeCells_ab P (E b).blk (o' + sl * sz) xs' 0 w hb (hfz.imp id Nat.le_of_eq) (by omega) hok
  let w1 := setCells w (E b).blk (o' + sl * sz + 0) xs'
  let ent : Ent := ⟨(E b).blk, o', (E b).lim, sz⟩
  have hw1 : w1.heap[(E b).blk]? = some (.cells (setA c' (o' + sl * sz + 0) xs') e (lo, hi)) := setCells_eq _ _ _ _ hb
  have hk := hR.write (w' := w1) ⟨_, hH, rfl⟩ .dead (setCells_size _ _ _ _) (fun b' hb' => setCells_ne _ _ _ _ _ hb') trivial (fun r h => by rw [hb] at h; cases h) (setCells_env _ _ _ _)
  have hlen : (H.set b .dead).next = H.next := next_set
  have hr1 : (H.set b .dead).next < BG := by rw [hlen]; exact hr0
  have hpl := hk.1.place hr1 (w' := w1) (.row e sz (old ++ xs)) ent (fun i hi => by
    refine ⟨?_, rfl⟩
    obtain ⟨x, hx1, hx2⟩ := hi
    rcases get?_set hx1 with ⟨rfl, rfl, _⟩ | ⟨hne, hx1⟩
    · cases hx2
    · intro e
      exact hR.inj b i (fun h => hne h.symm) ⟨_, hH, rfl⟩ ⟨_, hx1, hx2⟩ e.symm) (by
    refine ⟨setA c' (o' + sl * sz + 0) xs', lo, hi, by rw [upd_same]; exact hw1, ?_, by rw [upd_same], by rw [upd_same, setA_size]; exact hlim, by rw [setA_size]; exact hfz⟩
    rw [upd_same]
    refine ⟨?_, fun k hk => ?_⟩
    · rw [setA_size]; simp; show o' + _ ≤ _; omega
    · have hm : ∀ {v v' : Value}, VR E H.dom v v' → VR (upd E (H.set b .dead).next ent) ((H.set b .dead).push (.row e sz (old ++ xs))).dom v v' := fun h => h.mono (fun i hi => dom_push hr1 i (by rw [dom_set]; exact hi)) fun i hi => upd_dom hr1 _ _ _ (by rw [dom_set]; exact hi)
      show VR _ _ _ ((setA c' (o' + sl * sz + 0) xs').getD (o' + k) undef)
      rw [setA_get _ _ _ _ (by omega)]
      simp only [List.length_append] at hk
      by_cases hkl : k < old.length
      · rw [if_neg (by omega), List.getD_eq_getElem?_getD, List.getElem?_append_left hkl, ← List.getD_eq_getElem?_getD]
        exact hm (hrd _ _ _ hb k hkl)
      · rw [if_pos (by omega), List.getD_eq_getElem?_getD, List.getElem?_append_right (by omega), ← List.getD_eq_getElem?_getD, show o' + k - (o' + sl * sz + 0) = k - old.length by omega]
        exact hm (hx.2 _ (by omega)))
  rw [hlen] at hpl
  refine ⟨w1, upd E H.next ent, hst, hpl, ⟨fun i hi => upd_dom hr0 _ _ _ hi, by rw [setCells_size]; exact Nat.le_refl _, fun b0 hb0 hn => setCells_ne _ _ _ _ _ (fun h => hn b ⟨_, hH, rfl⟩ h.symm), fun i hi => ?_, setCells_env _ _ _ _, fun b0 r hb0 => ?_⟩, by rw [upd_same], by rw [upd_same], by rw [upd_same], by rw [upd_same]⟩
  · rcases isRw_push hr1 hi with hi | ⟨rfl, _⟩
    · obtain ⟨x, hx1, hx2⟩ := hi
      rcases get?_set hx1 with ⟨rfl, rfl, _⟩ | ⟨hne, hx1⟩
      · cases hx2
      · refine .inl ⟨i, ⟨x, hx1, hx2⟩, ?_⟩
        rw [upd_dom hr0 _ _ _ ⟨x, hx1⟩]
    · refine .inl ⟨b, ⟨_, hH, rfl⟩, ?_⟩
      rw [hlen, upd_same]
  · by_cases he : b0 = (E b).blk
    · subst he; rw [hb] at hb0; cases hb0
    · exact ⟨r, by rw [setCells_ne _ _ _ _ _ he]; exact hb0⟩

theorem empty_cells (x : Addr) (w : World) : (loadCells x 0).run P w = .ok #[] w := by
  have h1 := run_loadCells_list (P := P) w x [] (fun i v hv => by simp at hv)
  simpa using h1

theorem aappend_sound (hT : TabOK P T) (hR : R T.ng E H w) {ts : List TypeId} {ty : TypeId} {s x s' x' v : Value} {H1 : AHeap} (hs : VR E H.dom s s') (hx : VR E H.dom x x')
    (h : aappend T H ts s x = some (some v, H1)) : DoesV P T.ng E H w (Builtin.append_ ts.toArray ty #[s', x']) v H1 := by
  unfold aappend at h
  rw [hT.prim] at h
  split at h
  · rename_i t tx
    split at h
    · rename_i i hi
      split at h
      · rename_i e hd
        split at h
        · rename_i j hj
          split at h
          · rename_i hb
            split at h
            · rename_i n xs hap
              obtain ⟨xs', ha, hpl⟩ := aappended_sound (e := e) hT hR hj hx hap
              split at h
              · rename_i hok
                have hcells := okc_cells hok hpl
                have hxl : xs.length = n * j.size := by rw [hpl.1]; exact ha.len
                split at h
                · -- nil
                  obtain ⟨e1, _, _⟩ := hs.nilSlice
                  subst e1
                  split at h
                  · rename_i h0
                    cases h
                    have h0 : n ≤ 0 := of_decide_eq_true h0
                    have h0 : n = 0 := by omega
                    subst h0
                    refine .here hR (append_in (w1 := w) hT hi hd hj hb ha (Nat.le_refl _) (fun a h => by cases h) (fun _ => rfl)) ?_
                    exact .same rfl
                  · rename_i h0
                    have h0 : ¬ n ≤ 0 := of_decide_eq_false h0
                    split at h
                    · rename_i h1
                      have h1 : n ≤ 1073741824 := of_decide_eq_true h1
                      obtain ⟨hr0, hv0, hH1⟩ := anew_some h
                      cases hv0; subst hH1
                      obtain ⟨c', w1, rest, g1, g2, g3, g4⟩ := append_out (ty := ty) (base := none) (sl := 0) (sc := 0) (old := []) hT hi hd hj hb ha (by omega) (by omega) (fun w1 _ => by simp [Builtin.firstCells])
                      obtain ⟨h3, h4⟩ := arow_sound (T := T) hr0 (hR.heapEq g2.1) e j.size xs xs' rest 0 0 (.inr rfl) hpl
                      refine ⟨_, _, _, g4, ?_, h3, (Fr.heapEq g2.1 g2.2).trans h4, dom_push hr0⟩
                      have hl := ha.len
                      have := VR.slice (E := upd E H.next ⟨w1.heap.size, 0, xs'.length + rest.length, j.size⟩) (n := (H.push (AObj.row e j.size xs)).dom) (b := H.next) (o := 0) (len := n) (c := n) (o' := 0) (c' := c') (push_dom hr0) (Nat.le_refl _) (by simp) (by omega) (by
                        rw [upd_same]; intro _
                        have hq : n * j.size + (c' - (0 + n)) * j.size = c' * j.size := by rw [← Nat.add_mul]; congr 1; omega
                        simp only [hl, g3]
                        omega)
                      simpa [g2] using this
                    · cases h
                · rename_i b o len cap
                  obtain ⟨o', c', hbl, rfl, g0, g1, g2, g3⟩ := hs.slicep
                  split at h
                  · rename_i hle
                    have hle : len + n ≤ cap := of_decide_eq_true hle
                    split at h
                    · rename_i h0
                      cases h
                      have h0 : n ≤ 0 := of_decide_eq_true h0
                      have h0 : n = 0 := by omega
                      subst h0
                      have : xs' = [] := List.eq_nil_of_length_eq_zero (by rw [ha.len]; simp)
                      subst this
                      refine .here hR (append_in (w1 := w) hT hi hd hj hb ha (by omega) (fun a h => rfl) (fun _ => rfl)) ?_
                      exact hs
                    · rename_i h0
                      have h0 : ¬ n ≤ 0 := of_decide_eq_false h0
                      split at h
                      · rename_i H2 hst
                        cases h
                        have ho := g1 (by omega)
                        subst ho
                        obtain ⟨w1, q1, q2, q3, q4⟩ := hst_sound P hR hst hpl hcells
                        refine ⟨E, w1, _, append_in (w1 := w1) hT hi hd hj hb ha (by omega) (fun a h => ?_) (fun h => by cases h), ?_, q2, q3, by rw [q4]; exact Dom.le_refl _⟩
                        · cases h
                          rw [addr_add]
                          simp only [Prim.real] at q1
                          rw [Nat.add_assoc]
                          exact q1
                        · simp only [Prim.real]
                          rw [q4]
                          exact .slice hbl hle g1 g2 g3
                      · cases h
                  · rename_i hle
                    have hle : ¬ len + n ≤ cap := of_decide_eq_false hle
                    split at h
                    · rename_i e' sz c hH
                      split at h
                      · rename_i hee
                        subst hee
                        split at h
                        · rename_i hsz
                          obtain ⟨hsz, hsz0⟩ := hsz
                          split at h
                          · rename_i hsm
                            have hsm : len + n ≤ 1073741824 := of_decide_eq_true hsm
                            obtain ⟨cr, lo, hi0, hbr, hps, hez, hlim, hfz⟩ := hR.obj b _ hH
                            -- the old cells
                            have hold : ∃ old : List Value, old.length = len * sz ∧ (len = 0 → old = []) ∧ (anew (H.set b .dead) (.row e' j.size (old ++ xs)) fun k => .slice (some ⟨k, 0, none⟩) (len + n) (len + n)) = some (some v, H1) ∧
                                ∀ k, k < old.length → VR E H.dom (old.getD k undef) (cr.getD (o' + k) undef) := by
                              split at h
                              · rename_i hl0
                                have hl0 : len ≤ 0 := of_decide_eq_true hl0
                                have hl0 : len = 0 := by omega
                                subst hl0
                                exact ⟨[], by simp, fun _ => rfl, by simpa using h, fun k hk => absurd hk (by simp)⟩
                              · rename_i hl0
                                have hl0 : ¬ len ≤ 0 := of_decide_eq_false hl0
                                split at h
                                · rename_i old hrg
                                  simp only [Prim.real] at hrg
                                  split at hrg
                                  · rename_i hin
                                    cases hrg
                                    have ho := g1 (by omega)
                                    refine ⟨_, ?_, fun h => absurd h (by omega), h, fun k hk => ?_⟩
                                    · simp; rw [← hsz] at hin ⊢; omega
                                    · simp only [List.length_take, List.length_drop] at hk
                                      rw [List.getD_eq_getElem?_getD, List.getElem?_take, if_pos (by omega), List.getElem?_drop, ← List.getD_eq_getElem?_getD, ho, Nat.add_assoc]
                                      exact hps.2 _ (by omega)
                                  · cases hrg
                                · cases h
                            obtain ⟨old, ho1, ho2, h, ho3⟩ := hold
                            obtain ⟨hr0, hv0, hH1⟩ := anew_some h
                            cases hv0; subst hH1
                            have hr1 : H.next < BG := by rw [next_set] at hr0; exact hr0
                            by_cases hreal : len + n ≤ c'
                            · -- in its place
                              obtain ⟨w1, E1, q1, q2, q3, q4, q5, q6, q7⟩ := regrow (P := P) hr1 hR hH (o' := o') (sc := c') (sl := len) (n := n) g3 hreal hsz0 ho1 (fun c2 lo2 hi2 hc2 k hk => by
                                rw [hbr] at hc2; cases hc2; exact ho3 k hk) hpl (by rw [hsz]; exact hxl) hcells
                              refine ⟨E1, w1, _, append_in (w1 := w1) hT hi hd hj hb ha hreal (fun a h => ?_) (fun h => by cases h), ?_, by rw [← hsz]; exact q2, by rw [← hsz]; exact q3, fun i hi => dom_push hr0 i (by rw [dom_set]; exact hi)⟩
                              · cases h
                                rw [addr_add, ← hsz]
                                exact q1
                              · have := VR.slice (E := E1) (n := ((H.set b .dead).push (AObj.row e' j.size (old ++ xs))).dom) (b := H.next) (o := 0) (len := len + n) (c := len + n) (o' := o') (c' := c') (by have := push_dom (o := AObj.row e' j.size (old ++ xs)) hr0; rw [next_set] at this; exact this) (Nat.le_refl _) (fun _ => by rw [q5]; rfl) hreal (fun _ => by
                                  rw [q6, q7]
                                  have := g3 (by rw [hez]; exact hsz0)
                                  rw [hez] at this
                                  exact this)
                                rw [q4] at this
                                simpa [next_set] using this
                            · -- in a new array
                              have hkill := hR.kill b
                              have hfc : ∃ old' : List Value, PL E H.dom old old' ∧ ∀ w1 : World, w1.heap = w.heap → (Builtin.firstCells j.size len (.slice (some ⟨(E b).blk, o', none⟩) len c')).run P w1 = .ok old'.toArray w1 := by
                                by_cases hl0 : len = 0
                                · subst hl0
                                  have := ho2 rfl
                                  subst this
                                  exact ⟨[], ⟨rfl, fun k hk => absurd hk (by simp)⟩, fun w1 _ => by simp [Builtin.firstCells, empty_cells]⟩
                                · have hsc := g3 (by rw [hez]; exact hsz0)
                                  rw [hez, hlim] at hsc
                                  have hm : len * sz ≤ c' * sz := Nat.mul_le_mul_right _ (by omega)
                                  refine ⟨(cr.toList.drop o').take old.length, ⟨by simp; omega, fun k hk => ?_⟩, fun w1 hw1 => ?_⟩
                                  · rw [List.getD_eq_getElem?_getD (l := List.take _ _), List.getElem?_take, if_pos hk, List.getElem?_drop]
                                    have := ho3 k hk
                                    rw [Array.getD_eq_getD_getElem?] at this
                                    simpa using this
                                  · have h1 := run_loadCells_list (P := P) w1 ⟨(E b).blk, o', none⟩ ((cr.toList.drop o').take old.length) (fun k u hu => by
                                      have hk : k < old.length := by
                                        rcases Nat.lt_or_ge k old.length with hl | hl
                                        · exact hl
                                        · rw [List.getElem?_eq_none (by simp; omega)] at hu; cases hu
                                      rw [List.getElem?_take, if_pos hk, List.getElem?_drop] at hu
                                      rw [addr_add, cell_of w1 _ _ (by rw [hw1]; exact hbr), ← hu]
                                      simp)
                                    have hlen : ((cr.toList.drop o').take old.length).length = len * j.size := by simp; rw [← hsz]; omega
                                    rw [hlen] at h1
                                    exact h1
                              obtain ⟨old', hpo, hfc⟩ := hfc
                              obtain ⟨c2, w1, rest, p1, p2, p3, p4⟩ := append_out (ty := ty) (base := some ⟨(E b).blk, o', none⟩) (sl := len) (sc := c') (old := old') hT hi hd hj hb ha (by omega) hsm hfc
                              have hlen : (H.set b .dead).dom = H.dom := dom_set
                              obtain ⟨h3, h4⟩ := arow_sound (T := T) hr0 (hkill.1.heapEq p2.1) e' j.size (old ++ xs) (old' ++ xs') rest 0 0 (.inr rfl) (by rw [hlen]; exact pl_append hpo hpl)
                              rw [hlen] at h4
                              rw [next_set] at h3 h4
                              rw [List.append_assoc] at h3 h4
                              refine ⟨_, _, _, p4, ?_, h3, hkill.2.trans ((Fr.heapEq p2.1 p2.2).trans h4), fun i hi => dom_push hr0 i (by rw [dom_set]; exact hi)⟩
                              have hl := ha.len
                              have hl2 := hpo.1
                              have := VR.slice (E := upd E H.next ⟨w1.heap.size, 0, (old' ++ xs').length + rest.length, j.size⟩) (n := ((H.set b .dead).push (AObj.row e' j.size (old ++ xs))).dom) (b := H.next) (o := 0) (len := len + n) (c := len + n) (o' := 0) (c' := c2) (by have := push_dom (o := AObj.row e' j.size (old ++ xs)) hr0; rw [next_set] at this; exact this) (Nat.le_refl _) (by simp) p1 (by
                                rw [upd_same]; intro _
                                have hq : len * j.size + n * j.size + (c2 - (len + n)) * j.size = c2 * j.size := by rw [← Nat.add_mul, ← Nat.add_mul]; congr 1; omega
                                simp only [List.length_append, hl, p3, ← hl2, ho1, hsz]
                                omega)
                              simpa [p2.1, next_set] using this
                          · cases h
                        · cases h
                      · cases h
                    · cases h
                · cases h
              · cases h
            · cases h
          · cases h
        · cases h
      · cases h
    · cases h
  · cases h

theorem acopy_sound (hT : TabOK P T) (hR : R T.ng E H w) {ts : List TypeId} {ty : TypeId} {s x s' x' v : Value} {H1 : AHeap} (hs : VR E H.dom s s') (hx : VR E H.dom x x')
    (h : acopy T H ts s x = some (some v, H1)) : DoesV P T.ng E H w (Builtin.copy_ ts.toArray ty #[s', x']) v H1 := by
  unfold acopy at h
  rw [hT.prim] at h
  split at h
  · rename_i t tx
    split at h
    · rename_i i hi
      split at h
      · rename_i e hd
        split at h
        · rename_i j hj
          split at h
          · rename_i ix hix
            split at h
            · rename_i k a m c hdx
              cases h
              obtain ⟨e1, _, _⟩ := hs.nilSlice
              subst e1
              have : ∃ a' c', x' = .slice a' m c' := by
                cases hx with
                | same h => exact ⟨_, _, rfl⟩
                | slice hb => exact ⟨_, _, rfl⟩
              obtain ⟨a', c', rfl⟩ := this
              refine .here hR (v' := .int .i64 0) ?_ (.same rfl)
              cases a' with
              | none => simp [Builtin.copy_, run_und hT hi hd rfl, run_size hT hj, Builtin.lenOf, Builtin.firstCells, goInt]
              | some a' => simp [Builtin.copy_, run_und hT hi hd rfl, run_size hT hj, Builtin.lenOf, Builtin.firstCells, goInt, empty_cells]
            · rename_i k a n c hdx
              cases h
              obtain ⟨e1, _, _⟩ := hx.nilSlice
              subst e1
              have : ∃ a' c', s' = .slice a' n c' := by
                cases hs with
                | same h => exact ⟨_, _, rfl⟩
                | slice hb => exact ⟨_, _, rfl⟩
              obtain ⟨a', c', rfl⟩ := this
              refine .here hR (v' := .int .i64 0) ?_ (.same rfl)
              cases a' with
              | none => simp [Builtin.copy_, run_und hT hi hd rfl, run_size hT hj, Builtin.lenOf, Builtin.firstCells, goInt]
              | some a' => simp [Builtin.copy_, run_und hT hi hd rfl, run_size hT hj, Builtin.lenOf, Builtin.firstCells, goInt, storeCells]
            · rename_i k b o n c b2 o2 m c2 hdx
              obtain ⟨o', c', hbl, rfl, g0, g1, g2, g3⟩ := hs.slicep
              obtain ⟨o2', c2', hbl2, rfl, q0, q1, q2, q3⟩ := hx.slicep
              have hmin : Nat.min m n = if m ≤ n then m else n := rfl
              generalize hk : (if m ≤ n then m else n) = r at h hmin
              have hrm : r ≤ m ∧ r ≤ n := by subst hk; split <;> omega
              split at h
              · rename_i h0
                cases h
                have h0 : r ≤ 0 := of_decide_eq_true h0
                have h0 : r = 0 := by omega
                subst h0
                refine .here hR (v' := .int .i64 0) ?_ (.same rfl)
                simp only [Builtin.copy_, run_und hT hi hd rfl, run_size hT hj, Builtin.lenOf, Builtin.firstCells, goInt, Sem.run_bind, Result.andThen, Sem.run_pure, hmin, Nat.zero_mul, empty_cells, storeCells, List.getElem?_toArray, List.getElem?_cons_zero, List.getElem?_cons_succ]
                simp [storeCells]
              · rename_i h0
                have h0 : ¬ r ≤ 0 := of_decide_eq_false h0
                split at h
                · rename_i xs hxs
                  split at h
                  · rename_i hok
                    split at h
                    · rename_i H2 hst
                      cases h
                      obtain ⟨l', hn, hc, hpl⟩ := hld_sound hR hxs
                      have e1 := g1 (by omega); have e2 := q1 (by omega)
                      subst e1 e2
                      have hl := run_loadCells_list (P := P) w _ l' hc
                      rw [hn] at hl
                      obtain ⟨w1, p1, p2, p3, p4⟩ := hst_sound P hR hst hpl (okc_cells hok hpl)
                      refine ⟨E, w1, .int .i64 r, ?_, .same rfl, p2, p3, by rw [p4]; exact Dom.le_refl _⟩
                      simp only [Prim.real] at hl
                      simp [Builtin.copy_, run_und hT hi hd rfl, run_size hT hj, Builtin.lenOf, Builtin.firstCells, goInt, hmin, hl, p1]
                    · cases h
                  · cases h
                · cases h
            · cases h
          · cases h
        · cases h
      · cases h
    · cases h
  · cases h

theorem textOf_ints : ∀ (l : List Value) (bs : List UInt8), textOf l = some bs → ∃ ns : List Int, l = ns.map (Value.int .u8) ∧ bs = ns.map fun n => UInt8.ofNat n.toNat
  | [], bs, h => by
    simp only [textOf] at h
    cases h
    exact ⟨[], rfl, rfl⟩
  | v :: l, bs, h => by
    unfold textOf at h
    split at h
    · rename_i he; cases he
    · rename_i n r he
      cases he
      split at h
      · rename_i bs' hb
        cases h
        obtain ⟨ns, h1, h2⟩ := textOf_ints l bs' hb
        exact ⟨n :: ns, by rw [h1]; rfl, by rw [h2]; rfl⟩
      · cases h
    · cases h

theorem pl_ints {n : Dom} {ns : List Int} {k : IntKind} {l' : List Value} (h : PL E n (ns.map (Value.int k)) l') : l' = ns.map (Value.int k) := by
  apply List.ext_getElem?
  intro i
  by_cases hi : i < ns.length
  · have := h.2 i (by simpa using hi)
    have hl := h.1
    simp at hl
    simp only [List.getD_eq_getElem?_getD, List.getElem?_map, List.getElem?_eq_getElem hi, Option.map_some, Option.getD_some] at this
    have h2 := this.int
    rw [List.getElem?_eq_getElem (by omega)] at h2 ⊢
    simp only [Option.getD_some] at h2
    simp [h2, hi]
  · rw [List.getElem?_eq_none (by have := h.1; simp at this; omega), List.getElem?_eq_none (by simpa using hi)]

theorem push_all : ∀ (ns : List Int) (s : ByteArray), ns.foldl (fun r n => r.push (UInt8.ofNat n.toNat)) s = ⟨s.data ++ (ns.map fun n => UInt8.ofNat n.toNat).toArray⟩
  | [], s => by simp
  | n :: ns, s => by
    rw [List.foldl_cons, push_all ns]
    congr 1
    apply Array.ext'
    simp

theorem heap_freeze_ne (w : World) (a : Addr) (n b : Nat) (h : b ≠ a.block) : (w.freeze a n).heap[b]? = w.heap[b]? := by
  unfold World.freeze
  split
  · rfl
  · simp only
    rw [Array.getElem?_modify, if_neg (fun e => h e.symm)]
theorem heap_freeze_size (w : World) (a : Addr) (n : Nat) : (w.freeze a n).heap.size = w.heap.size := by
  unfold World.freeze
  split
  · rfl
  · simp
theorem heap_freeze_eq (w : World) (b o : Nat) {c : Array Value} {t : TypeId} {lo hi : Nat} (h : w.heap[b]? = some (.cells c t (lo, hi))) :
    (w.freeze ⟨b, o, none⟩ 1).heap[b]? = some (.cells c t (if lo == hi then (o, o + 1) else (min lo o, max hi (o + 1)))) := by
  unfold World.freeze
  rw [if_neg (by omega)]
  simp only
  rw [Array.getElem?_modify, if_pos rfl, h]
  rfl
theorem shape_cells {w : World} {b : Nat} {c : Array Value} {t : TypeId} {fz : Nat × Nat} (h : w.heap[b]? = some (.cells c t fz)) : w.shape? b = some (t, c.size) := by
  unfold World.shape?
  rw [h]

/-- A row that has been shared with a text stays a row. -/
theorem row_stringish (hR : R T.ng E H w) {b o : Nat} {t : TypeId} {sz : Nat} {c : List Value} (hH : H[b]? = some (.row t sz c)) :
    ∃ w1, (markStringish ⟨(E b).blk, o, none⟩).run P w = .ok () w1 ∧ R T.ng E H w1 ∧ Fr H.dom E H w E H w1 := by
  obtain ⟨c', lo, hi, hb, hps, hez, hlim, hfz⟩ := hR.obj b _ hH
  refine ⟨w.freeze ⟨(E b).blk, c'.size, none⟩ 1, ?_, ?_⟩
  · simp [markStringish, shape_cells hb]
  · have hset : H.set b (.row t sz c) = H := set_self hH
    have := hR.write (w' := w.freeze ⟨(E b).blk, c'.size, none⟩ 1) ⟨_, hH, rfl⟩ (.row t sz c) (heap_freeze_size _ _ _) (fun b' hb' => heap_freeze_ne _ _ _ _ hb') (by
      have hf := heap_freeze_eq w (E b).blk c'.size hb
      by_cases hlh : lo = hi
      · rw [if_pos (by simp [hlh])] at hf
        exact ⟨c', _, _, hf, hps, hez, hlim, .inl (Nat.le_refl _)⟩
      · rw [if_neg (by simp [hlh])] at hf
        exact ⟨c', _, _, hf, hps, hez, hlim, .inl (by omega)⟩) (fun r h => by rw [hb] at h; cases h) ⟨rfl, rfl, rfl⟩
    rw [hset] at this
    exact this

theorem aconvert_sound (hT : TabOK P T) (hR : R T.ng E H w) {src dst : TypeId} {x x' v : Value} {H1 : AHeap} (hx : VR E H.dom x x')
    (h : aconvert T H src dst x = some (some v, H1)) : DoesV P T.ng E H w (convert src dst x') v H1 := by
  unfold aconvert at h
  rw [hT.prim] at h
  split at h
  · rename_i is his
    split at h
    · rename_i id hid
      split at h
      · rename_i k1 k k2 n hd1 hd2
        cases h
        have e1 := hx.int; subst e1
        refine .here hR (v' := .int k (k.wrap n)) ?_ (by simp [Prim.real, realAr]; exact .same rfl)
        simp [convert, run_und hT his hd1 rfl, run_und hT hid hd2 rfl, Conv.intToInt]
      · rename_i k1 k2 n hd1 hd2
        cases h
        have e1 := hx.int; subst e1
        refine .here hR (v' := .string (Utf8.encode n)) ?_ (.same rfl)
        simp [convert, run_und hT his hd1 rfl, run_und hT hid hd2 rfl, Conv.intToString]
      · rename_i s hd1 hd2
        cases h
        have e1 := hx.string; subst e1
        refine .here hR (v' := .string s) ?_ (.same rfl)
        simp [convert, run_und hT his hd1 rfl, run_und hT hid hd2 rfl]
      · rename_i e hd1 hd2
        obtain ⟨e1, _, _⟩ := hx.nilSlice
        subst e1
        split at h
        · rename_i j hj
          split at h
          · rename_i hdj
            cases h
            refine .here hR (v' := .string .empty) ?_ (.same rfl)
            simp [convert, run_und hT his hd1 rfl, run_und hT hid hd2 rfl, run_und hT hj hdj rfl, Conv.bytesToString]
          · rename_i hdj
            cases h
            refine .here hR (v' := .string .empty) ?_ (.same rfl)
            simp [convert, run_und hT his hd1 rfl, run_und hT hid hd2 rfl, run_und hT hj hdj rfl, Conv.runesToString]
          · cases h
        · cases h
      · rename_i e b o n c hd1 hd2
        obtain ⟨o', c', hbl, rfl, g0, g1, g2, g3⟩ := hx.slicep
        split at h
        · rename_i j hj
          split at h
          · rename_i hdj
            split at h
            · rename_i h0
              cases h
              have h0 : n ≤ 0 := of_decide_eq_true h0
              have h0 : n = 0 := by omega
              subst h0
              refine .here hR (v' := .string .empty) ?_ (.same rfl)
              simp [convert, run_und hT his hd1 rfl, run_und hT hid hd2 rfl, run_und hT hj hdj rfl, Conv.bytesToString, empty_cells]
            · rename_i h0
              have h0 : ¬ n ≤ 0 := of_decide_eq_false h0
              split at h
              · rename_i l hl
                split at h
                · rename_i s hs
                  cases h
                  simp only [Prim.real] at hs
                  split at hs
                  · rename_i bs hbs
                    cases hs
                    obtain ⟨l', hn, hc, hpl⟩ := hld_sound hR hl
                    have ho := g1 (by omega)
                    subst ho
                    obtain ⟨ns, hns, hbs2⟩ := textOf_ints _ _ hbs
                    subst hns hbs2
                    have e1 := pl_ints hpl
                    subst e1
                    have h1 := run_loadCells_list (P := P) w _ _ hc
                    rw [hn] at h1
                    have h2 := run_bytesToString w _ n c' ns h1
                    refine .here hR (v' := .string ⟨(ns.map fun n => UInt8.ofNat n.toNat).toArray⟩) ?_ (.same rfl)
                    rw [push_all] at h2
                    simp only [convert, run_und hT his hd1 rfl, run_und hT hid hd2 rfl, run_und hT hj hdj rfl, Sem.run_bind, Result.andThen, h2]
                    congr 3
                    apply Array.ext'
                    simp
                  · cases hs
                · cases h
              · cases h
          · cases h
        · cases h
      · rename_i e s hd1 hd2
        have e1 := hx.string; subst e1
        split at h
        · rename_i j hj
          split at h
          · rename_i hdj
            obtain ⟨hr0, hv0, hH1⟩ := anew_some h
            cases hv0; subst hH1
            have hforced : (Question.appendCap s.size 0 e).forced = false := rfl
            have hcut : s.size ≤ (Question.appendCap s.size 0 e).cut (w.tape w.drawn (Question.appendCap s.size 0 e)) := by simp [Question.cut]
            generalize hcap : (Question.appendCap s.size 0 e).cut (w.tape w.drawn (Question.appendCap s.size 0 e)) = cap at hcut
            have hdr : w.drew.heap = w.heap := rfl
            have hb : (s.data.toList.map fun b => Value.int .u8 b.toNat).all flat = true := by
              rw [List.all_eq_true]
              intro v hv
              rw [List.mem_map] at hv
              obtain ⟨b, _, rfl⟩ := hv
              rfl
            obtain ⟨h3, h4⟩ := arow_sound (T := T) hr0 (hR.heapEq hdr) e 1 _ _ (List.replicate (cap - s.size) (.int .u8 0)) 0 0 (.inr rfl) (flat_self hb)
            obtain ⟨w1, p1, p2, p3⟩ := row_stringish (P := P) (o := 0) h3 (b := H.next) (t := e) (sz := 1) (c := s.data.toList.map fun b => Value.int .u8 b.toNat) (get_push_eq hr0)
            rw [upd_same] at p1
            refine ⟨_, w1, .slice (some ⟨w.heap.size, 0, none⟩) s.size cap, ?_, ?_, by simpa [Prim.real] using p2, by simpa [Prim.real] using (Fr.heapEq hdr ⟨rfl, rfl, rfl⟩).trans (h4.trans (p3.less (dom_push hr0))), dom_push hr0⟩
            · simp only [convert, run_und hT his hd1 rfl, run_und hT hid hd2 rfl, run_und hT hj hdj rfl, Conv.stringToBytes, Sem.run_bind, Result.andThen, run_choose_drew, hforced, Bool.false_eq_true, if_false, hcap, newRow, run_newObj, Sem.run_pure, World.alloc_eq]
              have he : (Array.map (fun (b : UInt8) => Value.int .u8 ↑b.toNat) s.data ++ Array.replicate (cap - s.size) (Value.int .u8 0)) = (List.map (fun (b : UInt8) => Value.int .u8 ↑b.toNat) s.data.toList ++ List.replicate (cap - s.size) (Value.int .u8 0)).toArray := by
                apply Array.ext'
                simp
              rw [he]
              simp only [World.size_drew] at p1 ⊢
              simp [p1]
            · have := VR.slice (E := upd E H.next ⟨w.drew.heap.size, 0, (List.map (fun b => Value.int IntKind.u8 ↑b.toNat) s.data.toList).length + (List.replicate (cap - s.size) (Value.int IntKind.u8 0)).length, 1⟩) (n := (H.push (AObj.row e 1 (List.map (fun b => Value.int IntKind.u8 ↑b.toNat) s.data.toList))).dom) (b := H.next) (o := 0) (len := s.size) (c := s.size) (o' := 0) (c' := cap) (push_dom hr0) (Nat.le_refl _) (by simp) hcut (by
                rw [upd_same]; intro _
                have : s.data.size = s.size := rfl
                simp [this]; omega)
              simpa [Prim.real] using this
          · cases h
        · cases h
      · rename_i k e b o n c hd1 hd2
        obtain ⟨o', c', hbl, rfl, g0, g1, g2, g3⟩ := hx.slicep
        split at h
        · rename_i hsd
          subst hsd
          split at h
          · rename_i j hj
            split at h
            · rename_i hdj
              split at h
              · rename_i t sz cc hH
                cases h
                obtain ⟨w1, p1, p2, p3⟩ := row_stringish (P := P) (o := o') hR hH
                have e0 : is = id := Option.some.inj (his.symm.trans hid)
                subst e0
                have e1 : TypeDesc.slice k = .slice e := hd1.symm.trans hd2
                cases e1
                refine ⟨E, w1, .slice (some ⟨(E b).blk, o', none⟩) n c', ?_, hx, p2, p3, Dom.le_refl _⟩
                simp [convert, run_und hT his hd1 rfl, run_und hT hid hd2 rfl, run_und hT hj hdj rfl, p1]
              · cases h
            · cases h
          · cases h
        · cases h
      · cases h
    · cases h
  · cases h

theorem aappend_some {ts : List TypeId} {s x : Value} {ov : Option Value} {H1 : AHeap} (h : aappend T H ts s x = some (ov, H1)) : ∃ v, ov = some v := by
  unfold aappend aval anew at h
  repeat' split at h
  all_goals first
    | (cases h; done)
    | (cases h; exact ⟨_, rfl⟩)
theorem acopy_some {ts : List TypeId} {s x : Value} {ov : Option Value} {H1 : AHeap} (h : acopy T H ts s x = some (ov, H1)) : ∃ v, ov = some v := by
  unfold acopy aval at h
  split at h <;> try cases h
  split at h <;> try cases h
  split at h <;> try cases h
  split at h <;> try cases h
  split at h <;> try cases h
  split at h <;> try cases h
  · exact ⟨_, rfl⟩
  · exact ⟨_, rfl⟩
  · split at h
    · cases h; exact ⟨_, rfl⟩
    · split at h
      · split at h
        · split at h
          · cases h; exact ⟨_, rfl⟩
          · cases h
        · cases h
      · cases h
theorem amakeSlice_some {t : TypeId} {s x : Value} {ov : Option Value} {H1 : AHeap} (h : amakeSlice T H t s x = some (ov, H1)) : ∃ v, ov = some v := by
  unfold amakeSlice anew at h
  repeat' split at h
  all_goals first
    | (cases h; done)
    | (cases h; exact ⟨_, rfl⟩)
theorem aconvert_some {t t' : TypeId} {x : Value} {ov : Option Value} {H1 : AHeap} (h : aconvert T H t t' x = some (ov, H1)) : ∃ v, ov = some v := by
  unfold aconvert aval anew at h
  repeat' split at h
  all_goals first
    | (cases h; done)
    | (cases h; exact ⟨_, rfl⟩)
end
end Go.Ab
