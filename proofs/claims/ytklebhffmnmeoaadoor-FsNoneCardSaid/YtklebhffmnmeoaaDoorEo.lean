/- The engine, part 15: sync/atomic's functions of one number. -/
import Derived.Test.YtklebhffmnmeoaaDoorEl
namespace Go.Ab
open Go

section
variable {P : Program} {ng : Nat} {f : FuncId} {fn : Func}

theorem atomic_cell {E : Emb} {H : AHeap} {w : World} (hR : R ng E H w) {b o : Nat} {ty : TypeId} {c : List Value} {k : IntKind} {n : Int} (hH : H[b]? = some (.var ty c)) (hc : c[o]? = some (.int k n)) :
    w.cell? ⟨(E b).blk, (E b).sh + o, none⟩ = some (.int k n) ∧ w.frozen? ⟨(E b).blk, (E b).sh + o, none⟩ = false := by
  obtain ⟨v', h1, h2⟩ := hld1_sound hR (b := b) (o := o) (v := .int k n) (by simp [hld1, hH, AObj.cells, hc])
  have e := h2.int; subst e
  refine ⟨h1, ?_⟩
  obtain ⟨c', t, g1, _⟩ := hR.obj b _ hH
  simp [World.frozen?, g1]

theorem atomic_set {E : Emb} {H : AHeap} {w : World} (hR : R ng E H w) {b o : Nat} {ty : TypeId} {c : List Value} {v : Value} (hH : H[b]? = some (.var ty c)) (ho : o < c.length) (hv : flat v = true) :
    R ng E (H.set b (.var ty (c.set o v))) (w.setCell ⟨(E b).blk, (E b).sh + o, none⟩ v) ∧ Fr H.dom E H w E (H.set b (.var ty (c.set o v))) (w.setCell ⟨(E b).blk, (E b).sh + o, none⟩ v) := by
  obtain ⟨c', t, g1, g2, g3, g4, g5⟩ := hR.obj b _ hH
  refine hR.write ⟨_, hH, rfl⟩ _ (by simp) (fun b' hb' => heap_setCell_ne _ _ _ _ hb') ⟨_, t, heap_setCell_eq _ _ _ _ g1, ⟨by have := g2.1; simpa using this, fun j hj => ?_⟩, g3, g4, by simpa using g5⟩ (fun r h => by rw [g1] at h; cases h) ⟨rfl, rfl, rfl⟩
  simp only [List.length_set] at hj
  simp only [List.getD_eq_getElem?_getD, List.getElem?_set, Array.getD_eq_getD_getElem?, Array.getElem?_setIfInBounds]
  by_cases e : o = j
  · subst e
    have := g2.1
    simp only [if_true, ho, show (E b).sh + o < c'.size by omega]
    exact .same hv
  · rw [if_neg e, if_neg (by omega)]
    have := g2.2 j hj
    simpa [List.getD_eq_getElem?_getD, Array.getD_eq_getD_getElem?] using this

theorem args1 {E : Emb} {n : Dom} {a : Value} {args' : Array Value} (h : PL E n [a] args'.toList) : ∃ a', args' = #[a'] ∧ VR E n a a' := by
  obtain ⟨l⟩ := args'
  rcases l with _ | ⟨x, _ | ⟨y, l⟩⟩
  · simp [PL] at h
  · exact ⟨x, rfl, h.2 0 (by simp)⟩
  · simp [PL] at h
theorem args2 {E : Emb} {n : Dom} {a b : Value} {args' : Array Value} (h : PL E n [a, b] args'.toList) : ∃ a' b', args' = #[a', b'] ∧ VR E n a a' ∧ VR E n b b' := by
  obtain ⟨l⟩ := args'
  rcases l with _ | ⟨x, _ | ⟨y, _ | ⟨z, l⟩⟩⟩
  · simp [PL] at h
  · simp [PL] at h
  · exact ⟨x, y, rfl, h.2 0 (by simp), h.2 1 (by simp)⟩
  · simp [PL] at h

theorem ACalls.atomicAdd (hf : P.funcs[f]? = some fn) (hname : (fn.name == "runtime.NumGoroutine") = false) (hb : fn.body.isNone = true) (hn : Extern.findNext fn = none) {k : IntKind}
    (he : Extern.find fn = some (Extern.Atomic.update (Op.intArith .add) k true)) {H : AHeap} {b o : Nat} {ty : TypeId} {c : List Value} {n d : Int} (hH : H[b]? = some (.var ty c)) (hc : c[o]? = some (.int k n)) {Q : Value → AHeap → Prop}
    (hQ : Q (.int k (k.wrap (n + d))) (H.set b (.var ty (c.set o (.int k (k.wrap (n + d))))))) : ACalls P ng f [.pointer (some ⟨b, o, none⟩), .int k d] H Q := by
  refine ⟨fun E w args' hR hpl => .inr ?_⟩
  obtain ⟨a', b', rfl, ha, hb'⟩ := args2 hpl
  obtain ⟨hbl, rfl⟩ := ha.pointer
  have e := hb'.int; subst e
  obtain ⟨h1, h2⟩ := atomic_cell hR hH hc
  have ho : o < c.length := by
    rcases Nat.lt_or_ge o c.length with hl | hl
    · exact hl
    · rw [List.getElem?_eq_none hl] at hc; cases hc
  obtain ⟨h3, h4⟩ := atomic_set hR (v := .int k (k.wrap (n + d))) hH ho rfl
  exact ⟨_, _, run_call_add hf hname hb hn k he h1 h2 (by simp [Op.intArith]), E, _, _, hQ, by rw [dom_set]; exact Dom.le_refl _, .same rfl, h3, h4⟩

theorem ACalls.atomicLoad (hf : P.funcs[f]? = some fn) (hname : (fn.name == "runtime.NumGoroutine") = false) (hb : fn.body.isNone = true) (hn : Extern.findNext fn = none) {k : IntKind}
    (he : Extern.find fn = some (Extern.Atomic.loadT (.int k))) {H : AHeap} {b o : Nat} {ty : TypeId} {c : List Value} {n : Int} (hH : H[b]? = some (.var ty c)) (hc : c[o]? = some (.int k n)) {Q : Value → AHeap → Prop}
    (hQ : Q (.int k n) H) : ACalls P ng f [.pointer (some ⟨b, o, none⟩)] H Q := by
  refine ⟨fun E w args' hR hpl => .inr ?_⟩
  obtain ⟨a', rfl, ha⟩ := args1 hpl
  obtain ⟨hbl, rfl⟩ := ha.pointer
  obtain ⟨h1, h2⟩ := atomic_cell hR hH hc
  exact ⟨_, _, run_call_load hf hname hb hn k he h1, E, _, _, hQ, Dom.le_refl _, .same rfl, hR, .refl _ _ _ _⟩

theorem ACalls.atomicStore (hf : P.funcs[f]? = some fn) (hname : (fn.name == "runtime.NumGoroutine") = false) (hb : fn.body.isNone = true) (hn : Extern.findNext fn = none)
    (he : Extern.find fn = some Extern.Atomic.storeT) {H : AHeap} {b o : Nat} {ty : TypeId} {c : List Value} {k : IntKind} {n d : Int} (hH : H[b]? = some (.var ty c)) (hc : c[o]? = some (.int k n)) {Q : Value → AHeap → Prop}
    (hQ : Q (.tuple #[]) (H.set b (.var ty (c.set o (.int k d))))) : ACalls P ng f [.pointer (some ⟨b, o, none⟩), .int k d] H Q := by
  refine ⟨fun E w args' hR hpl => .inr ?_⟩
  obtain ⟨a', b', rfl, ha, hb'⟩ := args2 hpl
  obtain ⟨hbl, rfl⟩ := ha.pointer
  have e := hb'.int; subst e
  obtain ⟨h1, h2⟩ := atomic_cell hR hH hc
  have ho : o < c.length := by
    rcases Nat.lt_or_ge o c.length with hl | hl
    · exact hl
    · rw [List.getElem?_eq_none hl] at hc; cases hc
  obtain ⟨h3, h4⟩ := atomic_set hR (v := .int k d) hH ho rfl
  exact ⟨_, _, run_call_store hf hname hb hn he h1 h2, E, _, _, hQ, by rw [dom_set]; exact Dom.le_refl _, .same rfl, h3, h4⟩
end
end Go.Ab
