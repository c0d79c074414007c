/- The engine, part 1: abstract heaps (small worlds), how they stand for real worlds. No program in it. -/
import Derived.WalkKit
namespace Go.Ab
open Go

/-- A place of the embedding: the real block, the shift of offsets, the real block's cells, an element's cells (0: it cannot grow). -/
structure Ent where
  blk : Nat
  sh : Nat
  lim : Nat
  esz : Nat

abbrev Emb := Nat → Ent

inductive AObj where
  | dead
  | ro (c : List Value)
  | var (t : TypeId) (c : List Value)
  | row (t : TypeId) (sz : Nat) (c : List Value)
  | map (es : List MapEntry) (clock : Nat)
  | mapIter (m : Option Nat) (since : Nat) (seen : Array Nat) (stepped : Nat)
  | strIter (s : ByteArray) (pos : Nat)
  | loop (state : LoopState) (pending : Option Code) (tmps : List Value) (ps : Array Tmp) (asg body : Code)
  deriving Inhabited

def AObj.rw : AObj → Bool
  | .dead | .ro _ => false
  | _ => true
def AObj.live : AObj → Bool
  | .dead => false
  | _ => true

/-- A small heap: places that stand one by one, and behind BG a background of whatever length. -/
structure AHeap where
  lit : List AObj
  bg : List AObj := []

/-- Where the background begins. -/
def BG : Nat := 1000000
def AHeap.get (H : AHeap) (i : Nat) : Option AObj := if i < BG then H.lit[i]? else H.bg[i - BG]?
instance : GetElem AHeap Nat AObj (fun H i => (H.get i).isSome = true) where
  getElem H i h := (H.get i).get h
instance : GetElem? AHeap Nat AObj (fun H i => (H.get i).isSome = true) where
  getElem? H i := H.get i
  getElem! H i := (H.get i).getD default
def AHeap.set (H : AHeap) (i : Nat) (o : AObj) : AHeap := if i < BG then { H with lit := H.lit.set i o } else { H with bg := H.bg.set (i - BG) o }
def AHeap.next (H : AHeap) : Nat := H.lit.length
def AHeap.push (H : AHeap) (o : AObj) : AHeap := { H with lit := H.lit ++ [o] }
/-- A place more in the background. -/
def AHeap.nextB (H : AHeap) : Nat := BG + H.bg.length
def AHeap.pushB (H : AHeap) (o : AObj) : AHeap := { H with bg := H.bg ++ [o] }
/-- Is there room for one place more? -/
def AHeap.room (H : AHeap) : Bool := Nat.blt H.lit.length BG

abbrev Dom := Nat → Prop
def Dom.le (D D' : Dom) : Prop := ∀ i, D i → D' i
theorem Dom.le_refl (D : Dom) : D.le D := fun _ h => h
theorem Dom.le_trans {A B C : Dom} (h : A.le B) (h' : B.le C) : A.le C := fun i x => h' i (h i x)
def AHeap.dom (H : AHeap) : Dom := fun i => ∃ o, H[i]? = some o

theorem get_lit {H : AHeap} {i : Nat} (h : i < BG) : H[i]? = H.lit[i]? := by show H.get i = _; unfold AHeap.get; rw [if_pos h]
theorem get_bg {H : AHeap} {i : Nat} (h : ¬ i < BG) : H[i]? = H.bg[i - BG]? := by show H.get i = _; unfold AHeap.get; rw [if_neg h]
theorem get_BG (l b : List AObj) (j : Nat) : (⟨l, b⟩ : AHeap)[BG + j]? = b[j]? := by rw [get_bg (by omega)]; simp
theorem room_lt {H : AHeap} (h : H.room = true) : H.next < BG := by unfold AHeap.room at h; exact Nat.blt_eq ▸ h

theorem get_push_ne {H : AHeap} {o : AObj} {i : Nat} (h : i ≠ H.next) : (H.push o)[i]? = H[i]? := by
  by_cases hi : i < BG
  · rw [get_lit hi, get_lit hi]
    show (H.lit ++ [o])[i]? = _
    unfold AHeap.next at h
    rcases Nat.lt_or_ge i H.lit.length with hl | hl
    · rw [List.getElem?_append_left hl]
    · rw [List.getElem?_eq_none (by simp; omega), List.getElem?_eq_none hl]
  · rw [get_bg hi, get_bg hi]; rfl
theorem get_push_eq {H : AHeap} {o : AObj} (h : H.next < BG) : (H.push o)[H.next]? = some o := by
  rw [get_lit h]
  show (H.lit ++ [o])[H.lit.length]? = _
  simp
theorem get_next {H : AHeap} (h : H.next < BG) : H[H.next]? = none := by
  rw [get_lit h]; unfold AHeap.next; simp
theorem get_push {H : AHeap} {o x : AObj} {i : Nat} (hr : H.next < BG) (h : (H.push o)[i]? = some x) : H[i]? = some x ∨ (i = H.next ∧ x = o) := by
  by_cases hi : i = H.next
  · subst hi; rw [get_push_eq hr] at h; cases h; exact .inr ⟨rfl, rfl⟩
  · rw [get_push_ne hi] at h; exact .inl h
theorem get_pushB_ne {H : AHeap} {o : AObj} {i : Nat} (h : i ≠ H.nextB) : (H.pushB o)[i]? = H[i]? := by
  unfold AHeap.nextB at h
  by_cases hi : i < BG
  · rw [get_lit hi, get_lit hi]; rfl
  · rw [get_bg hi, get_bg hi]
    show (H.bg ++ [o])[i - BG]? = _
    rcases Nat.lt_or_ge (i - BG) H.bg.length with hl | hl
    · rw [List.getElem?_append_left hl]
    · rw [List.getElem?_eq_none (by simp; omega), List.getElem?_eq_none hl]
theorem get_pushB_eq {H : AHeap} {o : AObj} : (H.pushB o)[H.nextB]? = some o := by
  rw [get_bg (by unfold AHeap.nextB; omega)]
  show (H.bg ++ [o])[BG + H.bg.length - BG]? = _
  simp
theorem get_nextB {H : AHeap} : H[H.nextB]? = none := by
  rw [get_bg (by unfold AHeap.nextB; omega)]; unfold AHeap.nextB; simp
theorem get?_set {H : AHeap} {i j : Nat} {o x : AObj} (h : (H.set i o)[j]? = some x) : (j = i ∧ x = o ∧ H.dom i) ∨ (j ≠ i ∧ H[j]? = some x) := by
  unfold AHeap.set at h
  by_cases hj : j = i
  · subst hj
    refine .inl ⟨rfl, ?_⟩
    by_cases hi : j < BG
    · rw [if_pos hi, get_lit hi] at h
      simp only [List.getElem?_set_self'] at h
      cases hl : H.lit[j]? with
      | none => rw [hl] at h; cases h
      | some y => rw [hl] at h; cases h; exact ⟨rfl, y, by rw [get_lit hi]; exact hl⟩
    · rw [if_neg hi, get_bg hi] at h
      simp only [List.getElem?_set_self'] at h
      cases hl : H.bg[j - BG]? with
      | none => rw [hl] at h; cases h
      | some y => rw [hl] at h; cases h; exact ⟨rfl, y, by rw [get_bg hi]; exact hl⟩
  · refine .inr ⟨hj, ?_⟩
    by_cases hi : i < BG
    · rw [if_pos hi] at h
      by_cases hj' : j < BG
      · rw [get_lit hj'] at h ⊢
        simpa [List.getElem?_set, Ne.symm hj] using h
      · rw [get_bg hj'] at h ⊢
        exact h
    · rw [if_neg hi] at h
      by_cases hj' : j < BG
      · rw [get_lit hj'] at h ⊢
        exact h
      · rw [get_bg hj'] at h ⊢
        simpa [List.getElem?_set, show ¬ i - BG = j - BG by omega] using h
theorem get_set_ne {H : AHeap} {i j : Nat} {o : AObj} (h : j ≠ i) : (H.set i o)[j]? = H[j]? := by
  unfold AHeap.set
  by_cases hi : i < BG <;> by_cases hj' : j < BG
  · rw [if_pos hi, get_lit hj', get_lit hj']; simp [List.getElem?_set, Ne.symm h]
  · rw [if_pos hi, get_bg hj', get_bg hj']
  · rw [if_neg hi, get_lit hj', get_lit hj']
  · rw [if_neg hi, get_bg hj', get_bg hj']; simp [List.getElem?_set, show ¬ i - BG = j - BG by omega]
theorem get_set_eq {H : AHeap} {i : Nat} {o : AObj} (h : H.dom i) : (H.set i o)[i]? = some o := by
  obtain ⟨x, hx⟩ := h
  unfold AHeap.set
  by_cases hi : i < BG
  · rw [get_lit hi] at hx
    rw [if_pos hi, get_lit hi]; simp [List.getElem?_set_self', hx]
  · rw [get_bg hi] at hx
    rw [if_neg hi, get_bg hi]; simp [List.getElem?_set_self', hx]
theorem dom_set {H : AHeap} {i : Nat} {o : AObj} : (H.set i o).dom = H.dom := by
  funext j
  apply propext
  constructor
  · rintro ⟨x, hx⟩
    rcases get?_set hx with ⟨rfl, _, h⟩ | ⟨_, h⟩
    · exact h
    · exact ⟨x, h⟩
  · rintro ⟨x, hx⟩
    by_cases h : j = i
    · subst h; exact ⟨o, get_set_eq ⟨x, hx⟩⟩
    · exact ⟨x, by rw [get_set_ne h]; exact hx⟩
theorem dom_push {H : AHeap} {o : AObj} (hr : H.next < BG) : H.dom.le (H.push o).dom := fun i ⟨x, hx⟩ => by
  by_cases h : i = H.next
  · subst h; rw [get_next hr] at hx; cases hx
  · exact ⟨x, by rw [get_push_ne h]; exact hx⟩
theorem dom_pushB {H : AHeap} {o : AObj} : H.dom.le (H.pushB o).dom := fun i ⟨x, hx⟩ => by
  by_cases h : i = H.nextB
  · subst h; rw [get_nextB] at hx; cases hx
  · exact ⟨x, by rw [get_pushB_ne h]; exact hx⟩
theorem next_set {H : AHeap} {i : Nat} {o : AObj} : (H.set i o).next = H.next := by
  unfold AHeap.set AHeap.next
  split
  · simp
  · rfl
theorem list_set_self {α : Type} {l : List α} {i : Nat} {o : α} (h : l[i]? = some o) : l.set i o = l := by
  apply List.ext_getElem?
  intro j
  rw [List.getElem?_set]
  split
  · rename_i e; subst e
    split
    · exact h.symm
    · rename_i hl; rw [List.getElem?_eq_none (by omega)]
  · rfl
theorem set_self {H : AHeap} {i : Nat} {o : AObj} (h : H[i]? = some o) : H.set i o = H := by
  unfold AHeap.set
  by_cases hi : i < BG
  · rw [if_pos hi, list_set_self (by rw [← get_lit hi]; exact h)]
  · rw [if_neg hi, list_set_self (by rw [← get_bg hi]; exact h)]
theorem next_dom {H : AHeap} (h : H.next < BG) : ¬ H.dom H.next := fun ⟨x, hx⟩ => by rw [get_next h] at hx; cases hx
theorem push_dom {H : AHeap} {o : AObj} (h : H.next < BG) : (H.push o).dom H.next := ⟨o, get_push_eq h⟩

def isRw (H : AHeap) (i : Nat) : Prop := ∃ o, H[i]? = some o ∧ o.rw = true
def isLive (H : AHeap) (i : Nat) : Prop := ∃ o, H[i]? = some o ∧ o.live = true
theorem rw_dom {H : AHeap} {i : Nat} (h : isRw H i) : H.dom i := let ⟨o, h, _⟩ := h; ⟨o, h⟩
theorem live_dom {H : AHeap} {i : Nat} (h : isLive H i) : H.dom i := let ⟨o, h, _⟩ := h; ⟨o, h⟩

/-- Values that name no memory. -/
def flat : Value → Bool
  | .bool _ | .int .. | .float .. | .complex .. | .string _ | .pointer none | .slice none 0 0 | .map none | .chan none | .nilFunc | .nilIface => true
  | .tuple vs => vs.size == 0
  | _ => false

/-- 'Whatever': it stands for any value. -/
def whatever : Value := .chan (some 0)

/-- 'v' of the small world stands for 'v'' of the real one; all places below n. -/
inductive VR (E : Emb) (n : Dom) : Value → Value → Prop
  | top {r : Nat} {v : Value} : VR E n (.chan (some r)) v
  | same {v : Value} (h : flat v = true) : VR E n v v
  | ptr {b o : Nat} (hb : n b) : VR E n (.pointer (some ⟨b, o, none⟩)) (.pointer (some ⟨(E b).blk, (E b).sh + o, none⟩))
  | slice {b o len c o' c' : Nat} (hb : n b) (h1 : len ≤ c) (h2 : 0 < c → o' = (E b).sh + o) (h3 : c ≤ c') (h4 : (E b).esz ≠ 0 → o' + c' * (E b).esz ≤ (E b).lim) :
      VR E n (.slice (some ⟨b, o, none⟩) len c) (.slice (some ⟨(E b).blk, o', none⟩) len c')
  | map {r : Nat} (hb : n r) : VR E n (.map (some r)) (.map (some (E r).blk))
  | yield {y : Nat} (hb : n y) : VR E n (.func (.yield y) #[] #[]) (.func (.yield (E y).blk) #[] #[])
  | func {f : FuncId} {a a' c c' : Array Value} (h1 : a.size = a'.size) (h2 : ∀ i, i < a.size → VR E n (a.getD i undef) (a'.getD i undef))
      (h3 : c.size = c'.size) (h4 : ∀ i, i < c.size → VR E n (c.getD i undef) (c'.getD i undef)) : VR E n (.func (.func f) a c) (.func (.func f) a' c')
  | iface {t : TypeId} {v v' : Value} (h : VR E n v v') (hv : ∀ r, v ≠ .chan (some r)) : VR E n (.iface t v) (.iface t v')
  | agg {a a' : Array Value} (h1 : a.size = a'.size) (h2 : ∀ i, i < a.size → VR E n (a.getD i undef) (a'.getD i undef)) : VR E n (.agg a) (.agg a')
  | tuple {a a' : Array Value} (h1 : a.size = a'.size) (h2 : ∀ i, i < a.size → VR E n (a.getD i undef) (a'.getD i undef)) : VR E n (.tuple a) (.tuple a')

/-- Arrays, place by place. -/
def PA (E : Emb) (n : Dom) (a a' : Array Value) : Prop := a.size = a'.size ∧ ∀ i, i < a.size → VR E n (a.getD i undef) (a'.getD i undef)

/-- A list of the small world against an array, from a shift on. -/
def PS (E : Emb) (n : Dom) (c : List Value) (sh : Nat) (c' : Array Value) : Prop :=
  sh + c.length ≤ c'.size ∧ ∀ j, j < c.length → VR E n (c.getD j undef) (c'.getD (sh + j) undef)

def ME (E : Emb) (n : Dom) (es : List MapEntry) (es' : Array MapEntry) : Prop :=
  es.length = es'.size ∧ ∀ (j : Nat) (e : MapEntry), es[j]? = some e → ∃ e' : MapEntry, es'[j]? = some e' ∧ e'.key = e.key ∧ flat e.key = true ∧ e'.born = e.born ∧ VR E n e.val e'.val

def OR (E : Emb) (n : Dom) (i : Nat) (w : World) : AObj → Prop
  | .dead => True
  | .ro c => ∃ c' t fz, w.heap[(E i).blk]? = some (.cells c' t fz) ∧ PS E n c (E i).sh c' ∧ (E i).esz = 0
  | .var ty c => ∃ c' t, w.heap[(E i).blk]? = some (.cells c' t (0, 0)) ∧ PS E n c (E i).sh c' ∧ (E i).esz = 0 ∧ (E i).sh = 0 ∧ c'.size = c.length ∧ t = ty
  | .row t sz c => ∃ c' lo hi, w.heap[(E i).blk]? = some (.cells c' t (lo, hi)) ∧ PS E n c (E i).sh c' ∧ (E i).esz = sz ∧ (E i).lim = c'.size ∧ (c'.size ≤ lo ∨ hi = lo)
  | .map es k => ∃ es', w.heap[(E i).blk]? = some (.map es' k) ∧ ME E n es es' ∧ (E i).esz = 0
  | .mapIter m since seen stepped => (∀ r, m = some r → n r) ∧ w.heap[(E i).blk]? = some (.mapIter (m.map fun r => (E r).blk) since seen stepped) ∧ (E i).esz = 0 ∧ (E i).sh = 0
  | .strIter s pos => w.heap[(E i).blk]? = some (.stringIter s pos) ∧ (E i).esz = 0 ∧ (E i).sh = 0
  | .loop st pd tm ps asg body => ∃ tm' f d, w.heap[(E i).blk]? = some (.loop { state := st, pending := pd, fn := f, tmps := tm', params := ps, assign := asg, body := body, defers := d }) ∧ tm.length = tm'.size ∧ PS E n tm 0 tm' ∧ (E i).esz = 0

/-- The small world H stands for w. ng: how many package-level variables there are. -/
structure R (ng : Nat) (E : Emb) (H : AHeap) (w : World) : Prop where
  glob : ∀ g, g < ng → (E g).blk = g ∧ (E g).sh = 0
  ngH : ∀ g, g < ng → H.dom g
  inj : ∀ i j, i ≠ j → isRw H i → isLive H j → (E i).blk ≠ (E j).blk
  obj : ∀ i o, H[i]? = some o → OR E H.dom i w o

/-- What lies beside memory is as it was. -/
def Env (w w' : World) : Prop := w'.os = w.os ∧ w'.tape = w.tape ∧ w'.output = w.output
theorem Env.refl (w : World) : Env w w := ⟨rfl, rfl, rfl⟩
theorem Env.trans {a b c : World} (h : Env a b) (k : Env b c) : Env a c := ⟨k.1.trans h.1, k.2.1.trans h.2.1, k.2.2.trans h.2.2⟩

/-- What a part of a run does to the rest. N: so many places of the embedding stay. -/
structure Fr (N : Dom) (E : Emb) (H : AHeap) (w : World) (E' : Emb) (H' : AHeap) (w' : World) : Prop where
  ext : ∀ i, N i → E' i = E i
  size : w.heap.size ≤ w'.heap.size
  keep : ∀ b, b < w.heap.size → (∀ i, isRw H i → (E i).blk ≠ b) → w'.heap[b]? = w.heap[b]?
  own : ∀ i, isRw H' i → (∃ j, isRw H j ∧ (E j).blk = (E' i).blk) ∨ w.heap.size ≤ (E' i).blk
  env : Env w w'
  loops : ∀ (b : Nat) (r : Loop), w.heap[b]? = some (Obj.loop r) → ∃ r', w'.heap[b]? = some (Obj.loop r')

theorem Fr.refl (N : Dom) (E : Emb) (H : AHeap) (w : World) : Fr N E H w E H w :=
  ⟨fun _ _ => rfl, Nat.le_refl _, fun _ _ _ => rfl, fun i hi => .inl ⟨i, hi, rfl⟩, .refl _, fun _ r h => ⟨r, h⟩⟩

theorem Fr.trans {N : Dom} {E E1 E2 : Emb} {H H1 H2 : AHeap} {w w1 w2 : World} (h : Fr N E H w E1 H1 w1) (h' : Fr N E1 H1 w1 E2 H2 w2) : Fr N E H w E2 H2 w2 := by
  refine ⟨fun i hi => (h'.ext i hi).trans (h.ext i hi), Nat.le_trans h.size h'.size, fun b hb hn => ?_, fun i hi => ?_, h.env.trans h'.env, fun b r hb => let ⟨r1, h1⟩ := h.loops b r hb; h'.loops b r1 h1⟩
  · refine (h'.keep b (Nat.lt_of_lt_of_le hb h.size) fun i hi e => ?_).trans (h.keep b hb hn)
    rcases h.own i hi with ⟨j, hj, e'⟩ | hlt
    · exact hn j hj (e'.trans e)
    · omega
  · rcases h'.own i hi with ⟨j, hj, e⟩ | hlt
    · rcases h.own j hj with ⟨k, hk, e'⟩ | hlt'
      · exact .inl ⟨k, hk, e'.trans e⟩
      · exact .inr (e ▸ hlt')
    · exact .inr (Nat.le_trans h.size hlt)

theorem Fr.less {N M : Dom} {E E1 : Emb} {H H1 : AHeap} {w w1 : World} (h : Fr N E H w E1 H1 w1) (hm : M.le N) : Fr M E H w E1 H1 w1 :=
  ⟨fun i hi => h.ext i (hm _ hi), h.size, h.keep, h.own, h.env, h.loops⟩

theorem VR.mono {E E' : Emb} {n n' : Dom} (hn : n.le n') (he : ∀ i, n i → E' i = E i) {v v' : Value} (h : VR E n v v') : VR E' n' v v' := by
  induction h with
  | top => exact .top
  | same h => exact .same h
  | ptr hb => rw [← he _ hb]; exact .ptr (hn _ hb)
  | slice hb h1 h2 h3 h4 => rw [← he _ hb] at h2 h4 ⊢; exact .slice (hn _ hb) h1 h2 h3 h4
  | map hb => rw [← he _ hb]; exact .map (hn _ hb)
  | yield hb => rw [← he _ hb]; exact .yield (hn _ hb)
  | func h1 _ h3 _ i2 i4 => exact .func h1 i2 h3 i4
  | iface _ hv ih => exact .iface ih hv
  | agg h1 _ ih => exact .agg h1 ih
  | tuple h1 _ ih => exact .tuple h1 ih

theorem PA.mono {E E' : Emb} {n n' : Dom} (hn : n.le n') (he : ∀ i, n i → E' i = E i) {a a' : Array Value} (h : PA E n a a') : PA E' n' a a' :=
  ⟨h.1, fun i hi => (h.2 i hi).mono hn he⟩
theorem PS.mono {E E' : Emb} {n n' : Dom} (hn : n.le n') (he : ∀ i, n i → E' i = E i) {c : List Value} {sh : Nat} {c' : Array Value} (h : PS E n c sh c') : PS E' n' c sh c' :=
  ⟨h.1, fun i hi => (h.2 i hi).mono hn he⟩
theorem ME.mono {E E' : Emb} {n n' : Dom} (hn : n.le n') (he : ∀ i, n i → E' i = E i) {es : List MapEntry} {es' : Array MapEntry} (h : ME E n es es') : ME E' n' es es' :=
  ⟨h.1, fun j e hj => let ⟨e', a, b, c, d, f⟩ := h.2 j e hj; ⟨e', a, b, c, d, f.mono hn he⟩⟩

/-- An object keeps standing where its block is as it was. -/
theorem OR.mono {E E' : Emb} {n n' : Dom} {i : Nat} {w w' : World} {o : AObj} (hn : n.le n') (he : ∀ i, n i → E' i = E i) (hi : n i)
    (hw : o.live = true → w'.heap[(E i).blk]? = w.heap[(E i).blk]?) (h : OR E n i w o) : OR E' n' i w' o := by
  cases o with
  | dead => trivial
  | ro c => obtain ⟨c', t, fz, h1, h2, h3⟩ := h; exact ⟨c', t, fz, by rw [he i hi, hw rfl]; exact h1, by rw [he i hi]; exact h2.mono hn he, by rw [he i hi]; exact h3⟩
  | var ty c => obtain ⟨c', t, h1, h2, h3, h4, h5⟩ := h; exact ⟨c', t, by rw [he i hi, hw rfl]; exact h1, by rw [he i hi]; exact h2.mono hn he, by rw [he i hi]; exact h3, by rw [he i hi]; exact h4, h5⟩
  | row t sz c => obtain ⟨c', lo, hi', h1, h2, h3, h4, h5⟩ := h; exact ⟨c', lo, hi', by rw [he i hi, hw rfl]; exact h1, by rw [he i hi]; exact h2.mono hn he, by rw [he i hi]; exact h3, by rw [he i hi]; exact h4, h5⟩
  | map es k => obtain ⟨es', h1, h2, h3⟩ := h; exact ⟨es', by rw [he i hi, hw rfl]; exact h1, h2.mono hn he, by rw [he i hi]; exact h3⟩
  | mapIter m since seen st =>
    obtain ⟨h0, h1, h2⟩ := h
    refine ⟨fun r hr => hn _ (h0 r hr), ?_, by rw [he i hi]; exact h2⟩
    rw [he i hi, hw rfl, h1]
    cases m with
    | none => rfl
    | some r => simp [he r (h0 r rfl)]
  | strIter s pos => obtain ⟨h1, h2⟩ := h; exact ⟨by rw [he i hi, hw rfl]; exact h1, by rw [he i hi]; exact h2⟩
  | loop st pd tm ps asg body => obtain ⟨tm', f, d, h1, h2, h3, h4⟩ := h; exact ⟨tm', f, d, by rw [he i hi, hw rfl]; exact h1, h2, h3.mono hn he, by rw [he i hi]; exact h4⟩

theorem blk_lt {ng : Nat} {E : Emb} {H : AHeap} {w : World} (hR : R ng E H w) {i : Nat} (hl : isLive H i) : (E i).blk < w.heap.size := by
  obtain ⟨o, ho, hl⟩ := hl
  have h := hR.obj i o ho
  have key : ∀ x, w.heap[(E i).blk]? = some x → (E i).blk < w.heap.size := fun x hx => by
    rcases Nat.lt_or_ge (E i).blk w.heap.size with hl | hl
    · exact hl
    · rw [Array.getElem?_eq_none hl] at hx; cases hx
  cases o with
  | dead => cases hl
  | ro c => obtain ⟨c', t, fz, h1, _⟩ := h; exact key _ h1
  | var ty c => obtain ⟨c', t, h1, _⟩ := h; exact key _ h1
  | row t sz c => obtain ⟨c', lo, hi, h1, _⟩ := h; exact key _ h1
  | map es k => obtain ⟨es', h1, _⟩ := h; exact key _ h1
  | mapIter m s se st => exact key _ h.2.1
  | strIter s pos => exact key _ h.1
  | loop st pd tm ps asg body => obtain ⟨tm', f, d, h1, _⟩ := h; exact key _ h1

theorem rw_live {H : AHeap} {i : Nat} (h : isRw H i) : isLive H i := by
  obtain ⟨o, ho, hr⟩ := h
  exact ⟨o, ho, by cases o <;> first | rfl | cases hr⟩

end Go.Ab
