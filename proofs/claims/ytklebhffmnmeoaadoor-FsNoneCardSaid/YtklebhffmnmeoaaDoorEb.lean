/- The engine, part 2: what a new block, a write, a forgetting do to 'R'. -/
import Derived.Test.YtklebhffmnmeoaaDoorEa
namespace Go.Ab
open Go

def upd (E : Emb) (n : Nat) (e : Ent) : Emb := fun i => if i = n then e else E i
@[simp] theorem upd_same (E : Emb) (n : Nat) (e : Ent) : upd E n e n = e := by simp [upd]

theorem R.heapEq {ng : Nat} {E : Emb} {H : AHeap} {w w' : World} (h : R ng E H w) (hw : w'.heap = w.heap) : R ng E H w' :=
  ⟨h.glob, h.ngH, h.inj, fun i o ho => (h.obj i o ho).mono (Dom.le_refl _) (fun _ _ => rfl) ⟨o, ho⟩ fun _ => by rw [hw]⟩
theorem Fr.heapEq {N : Dom} {E : Emb} {H : AHeap} {w w' : World} (hw : w'.heap = w.heap) (he : Env w w') : Fr N E H w E H w' :=
  ⟨fun _ _ => rfl, by rw [hw]; exact Nat.le_refl _, fun _ _ _ => by rw [hw], fun i hi => .inl ⟨i, hi, rfl⟩, he, fun _ r h => ⟨r, by rw [hw]; exact h⟩⟩

theorem isRw_push {H : AHeap} (hr : H.next < BG) {o : AObj} {i : Nat} : isRw (H.push o) i → isRw H i ∨ (i = H.next ∧ o.rw = true) := by
  rintro ⟨x, hx, hw⟩
  rcases get_push hr hx with hx | ⟨rfl, rfl⟩
  · exact .inl ⟨x, hx, hw⟩
  · exact .inr ⟨rfl, hw⟩
theorem isLive_push {H : AHeap} (hr : H.next < BG) {o : AObj} {i : Nat} : isLive (H.push o) i → isLive H i ∨ i = H.next := by
  rintro ⟨x, hx, hw⟩
  rcases get_push hr hx with hx | ⟨rfl, rfl⟩
  · exact .inl ⟨x, hx, hw⟩
  · exact .inr rfl
theorem upd_dom {H : AHeap} (hr : H.next < BG) (E : Emb) (e : Ent) (i : Nat) (h : H.dom i) : upd E H.next e i = E i := by
  unfold upd; rw [if_neg]; rintro rfl; exact next_dom hr h

/-- A new place on a block that nobody has: laid now (or taken over). -/
theorem R.place {ng : Nat} {E : Emb} {H : AHeap} (hr : H.next < BG) {w w' : World} (h : R ng E H w) (o : AObj) (e : Ent)
    (hkeep : ∀ i, isLive H i → (E i).blk ≠ e.blk ∧ w'.heap[(E i).blk]? = w.heap[(E i).blk]?)
    (hnew : OR (upd E H.next e) (H.push o).dom H.next w' o) : R ng (upd E H.next e) (H.push o) w' := by
  have hE : ∀ i, H.dom i → upd E H.next e i = E i := fun i hi => upd_dom hr _ _ _ hi
  refine ⟨fun g hg => ?_, fun g hg => dom_push hr _ (h.ngH g hg), fun i j hij hi hj => ?_, fun i x hx => ?_⟩
  · rw [hE g (h.ngH g hg)]; exact h.glob g hg
  · rcases isRw_push hr hi with hi | ⟨rfl, _⟩
    · rw [hE i (rw_dom hi)]
      rcases isLive_push hr hj with hj | rfl
      · rw [hE j (live_dom hj)]
        exact h.inj i j hij hi hj
      · rw [upd_same]; exact (hkeep i (rw_live hi)).1
    · rcases isLive_push hr hj with hj | rfl
      · have := (hkeep j hj).1
        rw [upd_same, hE j (live_dom hj)]
        exact fun e => this e.symm
      · exact absurd rfl hij
  · rcases get_push hr hx with hx | ⟨rfl, rfl⟩
    · exact (h.obj i x hx).mono (dom_push hr) hE ⟨x, hx⟩ fun hlive => (hkeep i ⟨x, hx, hlive⟩).2
    · exact hnew

theorem heap_push_lt (w : World) (O : Obj) (b : Nat) (h : b < w.heap.size) : (w.alloc O).heap[b]? = w.heap[b]? := by
  show (w.heap.push O)[b]? = _
  rw [Array.getElem?_push, if_neg (by omega)]
theorem heap_push_new (w : World) (O : Obj) : (w.alloc O).heap[w.heap.size]? = some O := by
  show (w.heap.push O)[w.heap.size]? = _
  simp

def AObj.isLoop : AObj → Bool
  | .loop .. => true
  | _ => false
theorem OR.loopy {E : Emb} {n : Dom} {i : Nat} {w : World} {o : AObj} (h : OR E n i w o) (hr : o.rw = true) : (∃ r, w.heap[(E i).blk]? = some (Obj.loop r)) ↔ o.isLoop = true := by
  cases o with
  | dead => cases hr
  | ro c => cases hr
  | var ty c => obtain ⟨c', t, h1, _⟩ := h; exact ⟨fun ⟨r, h⟩ => (by rw [h1] at h; cases h), fun h => (by cases h)⟩
  | row t sz c => obtain ⟨c', lo, hi, h1, _⟩ := h; exact ⟨fun ⟨r, h⟩ => (by rw [h1] at h; cases h), fun h => (by cases h)⟩
  | map es k => obtain ⟨es', h1, _⟩ := h; exact ⟨fun ⟨r, h⟩ => (by rw [h1] at h; cases h), fun h => (by cases h)⟩
  | mapIter m s se st => exact ⟨fun ⟨r, h'⟩ => (by rw [h.2.1] at h'; cases h'), fun h => (by cases h)⟩
  | strIter s pos => exact ⟨fun ⟨r, h'⟩ => (by rw [h.1] at h'; cases h'), fun h => (by cases h)⟩
  | loop st pd tm ps asg body => obtain ⟨tm', f, d, h1, _⟩ := h; exact ⟨fun _ => rfl, fun _ => ⟨_, h1⟩⟩

/-- A new block. -/
theorem R.new {ng : Nat} {E : Emb} {H : AHeap} (hr : H.next < BG) {w : World} (h : R ng E H w) (o : AObj) (O : Obj) (lim esz : Nat)
    (hnew : OR (upd E H.next ⟨w.heap.size, 0, lim, esz⟩) (H.push o).dom H.next (w.alloc O) o) :
    R ng (upd E H.next ⟨w.heap.size, 0, lim, esz⟩) (H.push o) (w.alloc O) ∧ Fr H.dom E H w (upd E H.next ⟨w.heap.size, 0, lim, esz⟩) (H.push o) (w.alloc O) := by
  refine ⟨h.place hr o _ (fun i hi => ?_) hnew, ⟨fun i hi => upd_dom hr _ _ _ hi, by simp, fun b hb _ => heap_push_lt w O b hb, fun i hi => ?_, ⟨rfl, rfl, rfl⟩, fun b r hb => ⟨r, ?_⟩⟩⟩
  · have := blk_lt h hi
    exact ⟨by simp; omega, heap_push_lt w O _ this⟩
  · rcases isRw_push hr hi with hi | ⟨rfl, _⟩
    · rw [upd_dom hr _ _ _ (rw_dom hi)]
      exact .inl ⟨i, hi, rfl⟩
    · exact .inr (by simp)
  · rw [heap_push_lt w O b (by rcases Nat.lt_or_ge b w.heap.size with hl | hl; exact hl; rw [Array.getElem?_eq_none hl] at hb; cases hb)]; exact hb

/-- A write into one block. -/
theorem R.write {ng : Nat} {E : Emb} {H : AHeap} {w w' : World} (h : R ng E H w) {i : Nat} (hi : isRw H i) (o : AObj) (hs : w'.heap.size = w.heap.size)
    (hk : ∀ b, b ≠ (E i).blk → w'.heap[b]? = w.heap[b]?) (hn : OR E H.dom i w' o) (hl : ∀ r, w.heap[(E i).blk]? = some (Obj.loop r) → ∃ r', w'.heap[(E i).blk]? = some (Obj.loop r')) (he : Env w w') : R ng E (H.set i o) w' ∧ Fr H.dom E H w E (H.set i o) w' := by
  have hrw : ∀ j, isRw (H.set i o) j → isRw H j := fun j ⟨x, hx, hr⟩ => by
    rcases get?_set hx with ⟨rfl, rfl, _⟩ | ⟨_, hx⟩
    · exact hi
    · exact ⟨x, hx, hr⟩
  have hlv : ∀ j, isLive (H.set i o) j → isLive H j := fun j ⟨x, hx, hr⟩ => by
    rcases get?_set hx with ⟨rfl, rfl, _⟩ | ⟨_, hx⟩
    · exact rw_live hi
    · exact ⟨x, hx, hr⟩
  refine ⟨⟨h.glob, fun g hg => by rw [dom_set]; exact h.ngH g hg, fun a b hab ha hb => h.inj a b hab (hrw a ha) (hlv b hb), fun j x hx => ?_⟩,
    ⟨fun _ _ => rfl, by rw [hs]; exact Nat.le_refl _, fun b _ hn => hk b fun e => hn i hi e.symm, fun j hj => .inl ⟨j, hrw j hj, rfl⟩, he, fun b r hb => ?_⟩⟩
  · rw [dom_set]
    rcases get?_set hx with ⟨rfl, rfl, _⟩ | ⟨hne, hx⟩
    · exact hn
    · exact (h.obj j x hx).mono (Dom.le_refl _) (fun _ _ => rfl) ⟨x, hx⟩ fun hl => hk _ fun e => h.inj i j (fun e => hne e.symm) hi ⟨x, hx, hl⟩ e.symm
  · by_cases hb' : b = (E i).blk
    · subst hb'
      exact hl r hb
    · exact ⟨r, by rw [hk b hb']; exact hb⟩

/-- Forgetting an object, or the right to write it. -/
theorem R.weaken {ng : Nat} {E : Emb} {H : AHeap} {w : World} (h : R ng E H w) (i : Nat) (o : AObj) (ho : o.rw = false) (hn : o.live = true → isLive H i) (hO : OR E H.dom i w o) : R ng E (H.set i o) w ∧ Fr H.dom E H w E (H.set i o) w := by
  have hrw : ∀ j, isRw (H.set i o) j → isRw H j := fun j ⟨x, hx, hr⟩ => by
    rcases get?_set hx with ⟨rfl, rfl, _⟩ | ⟨_, hx⟩
    · rw [ho] at hr; cases hr
    · exact ⟨x, hx, hr⟩
  have hlv : ∀ j, isLive (H.set i o) j → isLive H j := fun j ⟨x, hx, hr⟩ => by
    rcases get?_set hx with ⟨rfl, rfl, _⟩ | ⟨_, hx⟩
    · exact hn hr
    · exact ⟨x, hx, hr⟩
  refine ⟨⟨h.glob, fun g hg => by rw [dom_set]; exact h.ngH g hg, fun a b hab ha hb => h.inj a b hab (hrw a ha) (hlv b hb), fun j x hx => ?_⟩,
    ⟨fun _ _ => rfl, Nat.le_refl _, fun _ _ _ => rfl, fun j hj => .inl ⟨j, hrw j hj, rfl⟩, .refl _, fun _ r hb => ⟨r, hb⟩⟩⟩
  rw [dom_set]
  rcases get?_set hx with ⟨rfl, rfl, _⟩ | ⟨hne, hx⟩
  · exact hO
  · exact h.obj j x hx
theorem R.kill {ng : Nat} {E : Emb} {H : AHeap} {w : World} (h : R ng E H w) (i : Nat) : R ng E (H.set i .dead) w ∧ Fr H.dom E H w E (H.set i .dead) w :=
  h.weaken i .dead rfl (fun h => by cases h) trivial

theorem heap_setCell_ne (w : World) (a : Addr) (v : Value) (b : Nat) (h : b ≠ a.block) : (w.setCell a v).heap[b]? = w.heap[b]? := by
  simp only [World.setCell]
  rw [Array.getElem?_modify, if_neg (fun e => h e.symm)]
theorem heap_setCell_eq (w : World) (b o : Nat) (v : Value) {c : Array Value} {t : TypeId} {fz : Nat × Nat} (h : w.heap[b]? = some (.cells c t fz)) :
    (w.setCell ⟨b, o, none⟩ v).heap[b]? = some (.cells (c.setIfInBounds o v) t fz) := by
  simp only [World.setCell]
  rw [Array.getElem?_modify, if_pos rfl, h]
  rfl

/-- Many cells, one behind the other. -/
def setCells (w : World) (b : Nat) : Nat → List Value → World
  | _, [] => w
  | o, v :: vs => setCells (w.setCell ⟨b, o, none⟩ v) b (o + 1) vs
def setA (c : Array Value) : Nat → List Value → Array Value
  | _, [] => c
  | o, v :: vs => setA (c.setIfInBounds o v) (o + 1) vs

theorem setCells_ne (b : Nat) (vs : List Value) : ∀ (w : World) (o b' : Nat), b' ≠ b → (setCells w b o vs).heap[b']? = w.heap[b']? := by
  induction vs with
  | nil => intro w o b' _; rfl
  | cons v vs ih => intro w o b' h; exact (ih _ _ _ h).trans (heap_setCell_ne w _ v b' h)
theorem setCells_env (b : Nat) (vs : List Value) : ∀ (w : World) (o : Nat), Env w (setCells w b o vs) := by
  induction vs with
  | nil => intro w o; exact .refl _
  | cons v vs ih => intro w o; exact Env.trans ⟨rfl, rfl, rfl⟩ (ih (w.setCell ⟨b, o, none⟩ v) _)
theorem setCells_size (b : Nat) (vs : List Value) : ∀ (w : World) (o : Nat), (setCells w b o vs).heap.size = w.heap.size := by
  induction vs with
  | nil => intro w o; rfl
  | cons v vs ih => intro w o; exact (ih _ _).trans (by simp)
theorem setCells_eq (b : Nat) (vs : List Value) : ∀ (w : World) (o : Nat) {c : Array Value} {t : TypeId} {fz : Nat × Nat}, w.heap[b]? = some (.cells c t fz) →
    (setCells w b o vs).heap[b]? = some (.cells (setA c o vs) t fz) := by
  induction vs with
  | nil => intro w o c t fz h; exact h
  | cons v vs ih => intro w o c t fz h; exact ih _ _ (heap_setCell_eq w b o v h)
theorem setA_size (vs : List Value) : ∀ (c : Array Value) (o : Nat), (setA c o vs).size = c.size := by
  induction vs with
  | nil => intro c o; rfl
  | cons v vs ih => intro c o; exact (ih _ _).trans (by simp)
theorem setA_get (vs : List Value) : ∀ (c : Array Value) (o j : Nat), o + vs.length ≤ c.size → (setA c o vs).getD j undef = if o ≤ j ∧ j < o + vs.length then vs.getD (j - o) undef else c.getD j undef := by
  induction vs with
  | nil => intro c o j _; simp [setA]; intro h1 h2; omega
  | cons v vs ih =>
    intro c o j h
    simp only [List.length_cons] at h
    rw [setA, ih _ _ _ (by simp; omega)]
    by_cases h1 : o + 1 ≤ j ∧ j < o + 1 + vs.length
    · rw [if_pos h1, if_pos ⟨by omega, by simp; omega⟩]
      obtain ⟨k, rfl⟩ : ∃ k, j = o + 1 + k := ⟨j - (o + 1), by omega⟩
      rw [show o + 1 + k - (o + 1) = k from by omega, show o + 1 + k - o = k + 1 from by omega]
      rfl
    · rw [if_neg h1]
      by_cases h2 : j = o
      · subst h2
        rw [if_pos ⟨Nat.le_refl _, by simp⟩]
        simp [Array.getD_eq_getD_getElem?, Array.getElem?_setIfInBounds, show j < c.size from by omega]
      · rw [if_neg (by simp; omega)]
        simp [Array.getD_eq_getD_getElem?, Array.getElem?_setIfInBounds, show ¬ o = j from fun e => h2 e.symm]
end Go.Ab
