/- The engine, part 11: control: regions, branches, loops, calls; contracts on small worlds. -/
import Derived.Test.YtklebhffmnmeoaaDoorEj
import Derived.RangeFuncLeaves
import Derived.RangeFuncRecord
import Derived.RangeFuncCalls
import Derived.LoopNIn
namespace Go.Ab
open Go

def aeval (ng : Nat) (tmps : List Value) : Operand → Value
  | .tmp t => tmps.getD t undef
  | .const v => if flat v then v else whatever
  | .global g => if g < ng then .pointer (some ⟨g, 0, none⟩) else whatever
  | .func f => .func (.func f) #[] #[]

def aput (tmps : List Value) (dst : Option Tmp) (v : Value) : List Value :=
  match dst with
  | some d => tmps.set d v
  | none => tmps

def awanted (ops : Array Oper) (tmps : List Value) (o : Oper) : Option Bool :=
  match o.guard with
  | none => some true
  | some (j, want) => match ops[j]? with
    | some oj => match oj.dst with
      | some d => match tmps[d]? with
        | some (.bool b) => some (match want with | true => b | false => !b)
        | some (.chan (some _)) => none
        | some _ => some false
        | none => some false
      | none => some false
    | none => some false

/-- The temporaries, place by place. -/
def TR (E : Emb) (n : Dom) (tmps : List Value) (a : Array Value) : Prop := tmps.length = a.size ∧ ∀ i, i < tmps.length → VR E n (tmps.getD i undef) (a.getD i undef)

/-- A function (or a row that the model stands in for) is called in the real world and hands back a value. -/
def Invokes (P : Program) (f : FuncId) (args : Array Value) (w : World) (R : Value → World → Prop) : Prop :=
  ((∃ fn, P.funcs[f]? = some fn ∧ fn.body.isSome = true ∧ (fn.name == "runtime.NumGoroutine") = false) ∧ Calls P f args w fun e w' => ∃ v, e = .returned v ∧ R v w') ∨
  ∃ v w', (callFunc f args).run P w = .ok (.value v) w' ∧ R v w'

/-- A contract on small worlds. -/
structure ACalls (P : Program) (ng : Nat) (f : FuncId) (args : List Value) (H : AHeap) (Q : Value → AHeap → Prop) : Prop where
  run : ∀ (E : Emb) (w : World) (args' : Array Value), R ng E H w → PL E H.dom args args'.toList →
    Invokes P f args' w fun v' w' => ∃ E' v H', Q v H' ∧ H.dom.le H'.dom ∧ VR E' H'.dom v v' ∧ R ng E' H' w' ∧ Fr H.dom E H w E' H' w'

/-- The fence of a round, or none. -/
def Fz (ro : Option Nat) : Fence := { fn := fun _ => True, depth := none, alive := false, round := ro }
theorem Fz_calls {ro : Option Nat} {n : Nat} {P : Program} {f : FuncId} {args : Array Value} {w : World} {Q : Ending → World → Prop} (h : Calls P f args w Q) : CallsIn (Fz ro) n P f args w Q := by
  cases ro with
  | none => exact callsIn_wide.2 h
  | some l => exact CallsIn.inRound l (callsIn_wide.2 h)

/-- The marks of ranges over functions among the deferred calls. -/
def mark (r : Nat) : Deferred := { target := .collected r, args := #[] }
structure Mks (E : Emb) (H : AHeap) (w : World) (base : Nat) (rs : List Nat) : Prop where
  nd : rs.Nodup
  at_ : ∀ r ∈ rs, base ≤ r ∧ r < w.heap.size ∧ w.heap[r]? = some (.deferred (some [])) ∧ ∀ i, isRw H i → (E i).blk ≠ r

theorem Mks.nil (E : Emb) (H : AHeap) (w : World) (base : Nat) : Mks E H w base [] := ⟨List.nodup_nil, fun r h => by cases h⟩
theorem Mks.step {N : Dom} {E E' : Emb} {H H' : AHeap} {w w' : World} {base : Nat} {rs : List Nat} (h : Mks E H w base rs) (hF : Fr N E H w E' H' w') : Mks E' H' w' base rs :=
  ⟨h.nd, fun r hr => by
    obtain ⟨h1, h2, h3, h4⟩ := h.at_ r hr
    refine ⟨h1, Nat.lt_of_lt_of_le h2 hF.size, by rw [hF.keep r h2 h4]; exact h3, fun i hi e => ?_⟩
    rcases hF.own i hi with ⟨j, hj, e'⟩ | hle
    · exact h4 j hj (e'.trans e)
    · omega⟩
theorem Mks.app {E : Emb} {H : AHeap} {w : World} {base mid : Nat} {rs rs' : List Nat} (h : Mks E H w base rs) (h' : Mks E H w mid rs') (hb : base ≤ mid) (hlt : ∀ r ∈ rs, r < mid) : Mks E H w base (rs' ++ rs) :=
  ⟨List.nodup_append.2 ⟨h'.nd, h.nd, fun a ha b hb' e => by subst e; have := (h'.at_ a ha).1; have := hlt a hb'; omega⟩, fun r hr => by
    rcases List.mem_append.1 hr with hr | hr
    · obtain ⟨h1, h2⟩ := h'.at_ r hr; exact ⟨Nat.le_trans hb h1, h2⟩
    · exact h.at_ r hr⟩

def AP (ng : Nat) (N : Dom) (E : Emb) (H : AHeap) (w : World) (ds : List Deferred) (Q : Exit → St → Prop) : Exit → Act → World → Prop := fun e a1 w1 =>
  ∃ rs E1 st1, a1.defers = rs.map mark ++ ds ∧ Mks E1 st1.H w1 w.heap.size rs ∧ Q e st1 ∧ N.le st1.H.dom ∧ TR E1 st1.H.dom st1.tmps a1.tmps ∧ R ng E1 st1.H w1 ∧ Fr N E H w E1 st1.H w1

/-- Is a round's record there? -/
def roOK (ro : Option Nat) (w : World) : Prop := ∀ l, ro = some l → ∃ r, w.heap[l]? = some (Obj.loop r)
theorem roOK.step {ro : Option Nat} {N : Dom} {E E' : Emb} {H H' : AHeap} {w w' : World} (h : roOK ro w) (hF : Fr N E H w E' H' w') : roOK ro w' :=
  fun l hl => let ⟨r, hr⟩ := h l hl; hF.loops l r hr

/-- A piece of code, from a small world on. -/
structure AW (P : Program) (ng : Nat) (N : Dom) (c : Code) (st : St) (Q : Exit → St → Prop) : Prop where
  run : ∀ (ro : Option Nat), N.le st.H.dom → ∀ (E : Emb) (w : World) (a : Act), roOK ro w → TR E st.H.dom st.tmps a.tmps → R ng E st.H w → c.wpIn (Fz ro) 0 P (AP ng N E st.H w a.defers Q) a w

def aputs : List Value → List (Tmp × Value) → List Value
  | t, [] => t
  | t, x :: r => aputs (t.set x.1 x.2) r

/-- A round of a range over a function. -/
def around (P : Program) (T : Tab) (y : Nat) (args : List Value) (H : AHeap) (k : Value → AHeap → Prop) : Prop :=
  match H[y]? with
  | some (.loop .ready _ tm ps asg body) => if args.length = ps.size then
      AW P T.ng H.dom asg ⟨aputs tm (ps.toList.zip args), H⟩ fun e st1 => match e with
        | .normal => match st1.H[y]? with
          | some (.loop .ready pd1 tm1 ps1 asg1 body1) => AW P T.ng H.dom body ⟨st1.tmps, st1.H.set y (.loop .busy pd1 tm1 ps1 asg1 body1)⟩ fun e st2 => match st2.H[y]? with
            | some (.loop _ _ tm2 ps2 asg2 body2) => match e with
              | .normal => k (.bool true) (st2.H.set y (.loop .ready none tm2 ps2 asg2 body2))
              | .ret => k (.bool false) (st2.H.set y (.loop .done (some .ret) tm2 ps2 asg2 body2))
              | .exit id => k (.bool false) (st2.H.set y (.loop .done (some (.exit id)) tm2 ps2 asg2 body2))
              | _ => False
            | _ => False
          | _ => False
        | _ => False
      else False
  | _ => False

def alast (k : Value → AHeap → Prop) (r : AR) : Prop :=
  match r with
  | some (v, H) => match v with
    | some v => k v H
    | none => k undef H
  | none => False

def aone (P : Program) (T : Tab) (o : Oper) (st : St) (k : Value → AHeap → Prop) : Prop :=
  match o.op with
  | .call c => match c.callee with
    | .value f => match aeval T.ng st.tmps f with
      | .func (.func g) first cap => ACalls P T.ng g (first.toList ++ (c.args.toList.map (aeval T.ng st.tmps) ++ cap.toList)) st.H k
      | .func (.yield y) _ _ => around P T y (c.args.toList.map (aeval T.ng st.tmps)) st.H k
      | _ => False
    | .builtin b => alast k (abi T st.H b (c.args.toList.map (aeval T.ng st.tmps)) c.argTypes.toList)
    | .invoke _ _ => False
  | op => alast k (aop T st.H (aeval T.ng st.tmps) op)

def aops (P : Program) (T : Tab) (ops : Array Oper) : List Oper → St → (St → Prop) → Prop
  | [], st, K => K st
  | o :: os, st, K => match awanted ops st.tmps o with
    | some t => match t with
      | true => aone P T o st fun v H => aops P T ops os ⟨aput st.tmps o.dst v, H⟩ K
      | false => aops P T ops os ⟨aput st.tmps o.dst undef, st.H⟩ K
    | none => False

theorem TR.mono {E E' : Emb} {n n' : Dom} (hn : n.le n') (he : ∀ i, n i → E' i = E i) {t : List Value} {a : Array Value} (h : TR E n t a) : TR E' n' t a :=
  ⟨h.1, fun i hi => (h.2 i hi).mono hn he⟩
theorem TR.put {E : Emb} {n : Dom} {t : List Value} {a : Act} (h : TR E n t a.tmps) {dst : Option Tmp} {v v' : Value} (hv : VR E n v v') : TR E n (aput t dst v) (a.put dst v').tmps := by
  cases dst with
  | none => exact h
  | some d =>
    refine ⟨by simpa [aput, Act.put] using h.1, fun i hi => ?_⟩
    simp only [aput, List.length_set] at hi
    have hi' : i < a.tmps.size := by rw [← h.1]; exact hi
    simp only [aput, Act.put, List.getD_eq_getElem?_getD, List.getElem?_set, Array.getD_eq_getD_getElem?, Array.getElem?_setIfInBounds]
    by_cases hd : d = i
    · subst hd
      simp only [if_true, hi, hi']
      exact hv
    · simp only [if_neg hd]
      have := h.2 i hi
      simpa [List.getD_eq_getElem?_getD, Array.getD_eq_getD_getElem?] using this

theorem put_defers (a : Act) (dst : Option Tmp) (v : Value) : (a.put dst v).defers = a.defers := by cases dst <;> rfl

section
variable {P : Program} {T : Tab} {E : Emb} {H : AHeap} {w : World}

theorem aeval_VR (hR : R T.ng E H w) {tmps : List Value} {a : Act} (ht : TR E H.dom tmps a.tmps) (x : Operand) : VR E H.dom (aeval T.ng tmps x) (a.eval x) := by
  cases x with
  | tmp t =>
    simp only [aeval, Act.eval]
    rcases Nat.lt_or_ge t tmps.length with hl | hl
    · exact ht.2 t hl
    · have h1 : tmps.getD t undef = undef := by rw [List.getD_eq_getElem?_getD, List.getElem?_eq_none hl]; rfl
      have h2 : a.tmps.getD t undef = undef := by rw [Array.getD_eq_getD_getElem?, Array.getElem?_eq_none (by rw [← ht.1]; exact hl)]; rfl
      rw [h1, h2]
      exact .same rfl
  | const v =>
    simp only [aeval, Act.eval]
    split
    · rename_i h; exact .same h
    · exact .top
  | global g =>
    simp only [aeval, Act.eval]
    split
    · rename_i h
      obtain ⟨h1, h2⟩ := hR.glob g h
      have := VR.ptr (E := E) (n := H.dom) (b := g) (o := 0) (hR.ngH _ h)
      rw [h1, h2] at this
      exact this
    · exact .top
  | func f => exact .func rfl (fun i hi => by simp at hi) rfl (fun i hi => by simp at hi)

theorem awanted_real {tmps : List Value} {a : Act} {n : Dom} (ht : TR E n tmps a.tmps) {ops : Array Oper} {o : Oper} {b : Bool} (h : awanted ops tmps o = some b) : Region.wanted o (yielded ops a.tmps) = b := by
  unfold awanted at h
  unfold Region.wanted
  split at h
  · rename_i hg
    cases h
    rw [hg]
  · rename_i j want hg
    rw [hg]
    simp only [yielded]
    split at h
    · rename_i oj hj
      simp only [hj, Option.bind_some]
      split at h
      · rename_i d hd
        simp only [hd, Option.bind_some]
        have key : ∀ v, tmps[d]? = some v → ∃ v', a.tmps[d]? = some v' ∧ VR E n v v' := by
          intro v hv
          have hlt : d < tmps.length := by
            rcases Nat.lt_or_ge d tmps.length with hl | hl
            · exact hl
            · rw [List.getElem?_eq_none hl] at hv; cases hv
          have := ht.2 d hlt
          rw [List.getD_eq_getElem?_getD, hv, Array.getD_eq_getD_getElem?, Array.getElem?_eq_getElem (by rw [← ht.1]; exact hlt)] at this
          exact ⟨_, Array.getElem?_eq_getElem (by rw [← ht.1]; exact hlt), this⟩
        split at h
        · rename_i t hv
          cases h
          obtain ⟨v', h1, h2⟩ := key _ hv
          have e := h2.bool; subst e
          rw [h1]
          cases want <;> cases t <;> rfl
        · cases h
        · rename_i v h3 h4 hv
          cases h
          obtain ⟨v', h1, h2⟩ := key _ hv
          rw [h1]
          cases v' with
          | bool b =>
            cases h2 with
            | top => exact absurd rfl (h4 _)
            | same _ => exact absurd rfl (h3 _)
          | _ => rfl
        · rename_i hv
          cases h
          have : a.tmps[d]? = none := by
            rw [List.getElem?_eq_none_iff] at hv
            rw [Array.getElem?_eq_none]
            rw [← ht.1]; exact hv
          rw [this]
          rfl
      · rename_i hd
        cases h
        simp [hd]
    · rename_i hj
      cases h
      simp [hj]

/-- What one operation leaves. -/
def After (ng : Nat) (E : Emb) (H : AHeap) (w : World) (a : Act) (dst : Option Tmp) (k : Value → AHeap → Prop) : Act → World → Prop := fun a1 w1 =>
  ∃ E1 v v' H1, k v H1 ∧ a1 = a.put dst v' ∧ VR E1 H1.dom v v' ∧ R ng E1 H1 w1 ∧ Fr H.dom E H w E1 H1 w1 ∧ H.dom.le H1.dom

theorem semRun (ro : Option Nat) {o : Oper} (h : ∀ c, o.op ≠ .defer c) (ρ : Operand → Value) : o.semAt (Fz ro).round ρ = execOp ρ o := Oper.semAt_eq _ _ _ h

theorem alast_sound {ro : Option Nat} {o : Oper} {a : Act} {k : Value → AHeap → Prop} {r : AR} (Q : Exit → Act → World → Prop) (hnd : ∀ c, o.op ≠ .defer c) (hk : alast k r) (hr : ∀ r', r = some r' → Does P T.ng E H w (execOp a.eval o) r') :
    o.wpIn (Fz ro) 0 P a w (After T.ng E H w a o.dst k) Q := by
  unfold alast at hk
  split at hk
  · rename_i ov H1
    obtain ⟨E1, w1, nx, h1, h2, h3, h4, h5⟩ := hr _ rfl
    refine ⟨fun _ _ => trivial, ?_⟩
    rw [semRun ro hnd, h1]
    split at hk
    · rename_i v
      obtain ⟨v', rfl, hv⟩ := h2
      rw [Oper.uponIn_value]
      exact ⟨E1, v, v', H1, hk, rfl, hv, h3, h4, h5⟩
    · simp only at h2
      subst h2
      rw [Oper.uponIn_skip]
      exact ⟨E1, undef, undef, H1, hk, rfl, .same rfl, h3, h4, h5⟩
  · exact hk.elim

theorem invokes_wp {ro : Option Nat} {o : Oper} {a : Act} {f : FuncId} {args : Array Value} {next : Act → World → Prop} {Q : Exit → Act → World → Prop} (hnd : ∀ c, o.op ≠ .defer c) (ho : (execOp a.eval o).run P w = (callFunc f args).run P w)
    (h : Invokes P f args w fun v w' => next (a.put o.dst v) w') : o.wpIn (Fz ro) 0 P a w next Q := by
  refine ⟨fun _ _ => trivial, ?_⟩
  rw [semRun ro hnd, ho]
  rcases h with ⟨⟨fn, h1, h2, h3⟩, hc⟩ | ⟨v, w', hr, hn⟩
  · have : (callFunc f args).run P w = .ok (.enter f args) w := by
      have hb : fn.body.isNone = false := by cases hb : fn.body <;> simp_all
      simp only [callFunc, Sem.run_bind, run_program, Result.andThen, h1, h3, hb, Bool.false_eq_true, if_false, Sem.run_pure]
    rw [this, Oper.uponIn_enter]
    refine ⟨fun h => (by cases h), CallsIn.mono (Fz_calls hc) ?_⟩
    rintro e w' ⟨v, rfl, hv⟩
    exact hv
  · rw [hr, Oper.uponIn_value]
    exact hn

theorem pl_app {E : Emb} {n : Dom} {l1 l1' l2 l2' : List Value} (g1 : PL E n l1 l1') (g2 : PL E n l2 l2') : PL E n (l1 ++ l2) (l1' ++ l2') := by
  have e1 := g1.1
  have e2 := g2.1
  refine ⟨by simp [e1, e2], fun j hj => ?_⟩
  simp only [List.getD_eq_getElem?_getD]
  by_cases hl : j < l1.length
  · rw [List.getElem?_append_left hl, List.getElem?_append_left (by omega)]
    have := g1.2 j hl
    simpa [List.getD_eq_getElem?_getD] using this
  · rw [List.getElem?_append_right (by omega), List.getElem?_append_right (by omega), ← e1]
    have := g2.2 (j - l1.length) (by simp at hj; omega)
    simpa [List.getD_eq_getElem?_getD] using this

theorem aputs_TR {E : Emb} {n : Dom} : ∀ (ps : List Tmp) (vs vs' : List Value) (t : List Value) (t' : Array Value), TR E n t t' → PL E n vs vs' →
    TR E n (aputs t (ps.zip vs)) ((ps.zip vs').foldl (fun tmps (x : Tmp × Value) => tmps.setIfInBounds x.1 x.2) t')
  | [], vs, vs', t, t', ht, _ => by simpa [aputs] using ht
  | p :: ps, [], vs', t, t', ht, hp => by
    have : vs' = [] := List.eq_nil_of_length_eq_zero hp.1.symm
    subst this
    simpa [aputs] using ht
  | p :: ps, v :: vs, vs', t, t', ht, hp => by
    match vs', hp with
    | [], hp => exact absurd hp.1 (by simp)
    | v' :: vs', hp =>
      simp only [List.zip_cons_cons, aputs, List.foldl_cons]
      refine aputs_TR ps vs vs' _ _ ?_ ⟨by simpa using hp.1, fun j hj => hp.2 (j + 1) (by simpa using hj)⟩
      have := TR.put (a := ⟨t', []⟩) ht (dst := some p) (hp.2 0 (by simp))
      exact this

theorem put_loop_ne {w : World} {l b : Nat} {O : Obj} (h : b ≠ l) : (w.putObj l O).heap[b]? = w.heap[b]? := by
  simp [World.putObj, Array.getElem?_setIfInBounds, Ne.symm h]
theorem put_loop_eq {w : World} {l : Nat} {O x : Obj} (h : w.heap[l]? = some x) : (w.putObj l O).heap[l]? = some O := by
  have : l < w.heap.size := by
    rcases Nat.lt_or_ge l w.heap.size with hl | hl
    · exact hl
    · rw [Array.getElem?_eq_none hl] at h; cases h
  simp [World.putObj, Array.getElem?_setIfInBounds, this]
theorem put_loop_size {w : World} {l : Nat} {O : Obj} : (w.putObj l O).heap.size = w.heap.size := by simp [World.putObj]

/-- A round's record changes its state. -/
theorem R.loopTo (hR : R T.ng E H w) {y : Nat} {st : LoopState} {pd : Option Code} {tm : List Value} {ps : Array Tmp} {asg body : Code} (hy : H[y]? = some (.loop st pd tm ps asg body)) {r : Loop} (hr : w.heap[(E y).blk]? = some (.loop r)) (st1 : LoopState) (pd1 : Option Code) :
    R T.ng E (H.set y (.loop st1 pd1 tm ps asg body)) (w.putObj (E y).blk (.loop { r with state := st1, pending := pd1 })) ∧ Fr H.dom E H w E (H.set y (.loop st1 pd1 tm ps asg body)) (w.putObj (E y).blk (.loop { r with state := st1, pending := pd1 })) := by
  obtain ⟨tm', f, d, h1, h2, h3, h4⟩ := hR.obj y _ hy
  rw [hr] at h1
  cases h1
  exact hR.write ⟨_, hy, rfl⟩ _ put_loop_size (fun b hb => put_loop_ne hb) ⟨tm', f, d, put_loop_eq hr, h2, h3, h4⟩ (fun _ _ => ⟨_, put_loop_eq hr⟩) ⟨rfl, rfl, rfl⟩

theorem around_sound {ro : Option Nat} {o : Oper} {a : Act} {y : Nat} {args : List Value} {args' : Array Value} {k : Value → AHeap → Prop} (Q : Exit → Act → World → Prop) (hnd : ∀ c, o.op ≠ .defer c)
    (ho : (execOp a.eval o).run P w = (Instr.yield (E y).blk args').run P w) (hargs : PL E H.dom args args'.toList) (hR : R T.ng E H w) (h : around P T y args H k) : o.wpIn (Fz ro) 0 P a w (After T.ng E H w a o.dst k) Q := by
  unfold around at h
  split at h
  · rename_i pd tm ps asg body hy
    split at h
    · rename_i hlen
      obtain ⟨tm', f, d, h1, h2, h3, h4⟩ := hR.obj y _ hy
      refine ⟨fun _ _ => trivial, ?_⟩
      have hl' : args'.size = ps.size := by have := hargs.1; simp at this; omega
      rw [semRun ro hnd, ho, run_yield h1 hl', Oper.uponIn_round]
      refine ⟨fun h => (by cases h), roundIn_of_wpIn (F := Fz ro) trivial ?_⟩
      have ht : TR E H.dom (aputs tm (ps.toList.zip args)) ((ps.zip args').foldl (fun (tmps : Array Value) (x : Tmp × Value) => tmps.setIfInBounds x.1 x.2) tm') := by
        have := aputs_TR ps.toList args args'.toList tm tm' ⟨h2, fun i hi => by have := h3.2 i hi; simpa using this⟩ hargs
        rw [← Array.foldl_toList, Array.toList_zip]
        exact this
      refine wpIn_mono (h.run (some (E y).blk) (Dom.le_refl _) E w _ (fun l hl => by cases hl; exact ⟨_, h1⟩) ht hR) ?_
      rintro e1 a1 w1 ⟨rs1, E1, st1, hd1, hm1, hk1, hN1, ht1, hR1, hF1⟩
      have ey : E1 y = E y := hF1.ext y ⟨_, hy⟩
      split at hk1
      · split at hk1
        · rename_i pd1 tm1 ps1 asg1 body1 hy1
          obtain ⟨tm1', f1, d1, g1, g2, g3, g4⟩ := hR1.obj y _ hy1
          rw [ey] at g1
          refine ⟨_, run_beginRound g1 rfl, ?_⟩
          have hb := hR1.loopTo hy1 (by rw [ey]; exact g1) .busy pd1
          rw [ey] at hb
          refine wpIn_mono (hk1.run (some (E y).blk) (by rw [dom_set]; exact hN1) E1 _ a1 (fun l hl => by cases hl; exact ⟨_, put_loop_eq g1⟩) (by rw [dom_set]; exact ht1) hb.1) ?_
          rintro e2 a2 w2 ⟨rs2, E2, st2, hd2, hm2, hk2, hN2, ht2, hR2, hF2⟩
          have ey2 : E2 y = E y := by rw [hF2.ext y ⟨_, hy⟩]; exact ey
          split at hk2
          · rename_i st3 pd2 tm2 ps2 asg2 body2 hy2
            obtain ⟨tm2', f2, d2, q1, q2, q3, q4⟩ := hR2.obj y _ hy2
            have hFt : Fr H.dom E H w E2 st2.H w2 := (hF1.trans (hb.2.less hN1)).trans hF2
            have key : ∀ (jump : Option Code) (v : Bool) (st4 : LoopState), (if jump.isNone then LoopState.ready else LoopState.done) = st4 → jump.isNone = v → k (.bool v) (st2.H.set y (.loop st4 jump tm2 ps2 asg2 body2)) →
                ∃ v' w', (Instr.endRound (E y).blk jump).run P w2 = .ok v' w' ∧ After T.ng E H w a o.dst k (a.put o.dst v') w' := by
              intro jump v st4 hst hv hk
              have q1' := q1
              rw [ey2] at q1'
              have hz := hR2.loopTo hy2 q1 st4 jump
              rw [ey2] at hz
              refine ⟨_, _, run_endRound jump q1', E2, .bool v, .bool jump.isNone, _, hk, rfl, by rw [hv]; exact .same rfl, ?_, ?_, by rw [dom_set]; exact hN2⟩
              · rw [hst]; exact hz.1
              · rw [hst]; exact hFt.trans (hz.2.less hN2)
            cases e2 with
            | normal => exact key none true .ready rfl rfl hk2
            | ret => exact key (some .ret) false .done rfl rfl hk2
            | exit id => exact key (some (.exit id)) false .done rfl rfl hk2
            | _ => exact hk2.elim
          · exact hk2.elim
        · exact hk1.elim
      · exact hk1.elim
    · exact h.elim
  · exact h.elim

theorem aop_defer {c : Call} {ρ : Operand → Value} : aop T H ρ (.defer c) = none := rfl

theorem aone_sound (hT : TabOK P T) {ro : Option Nat} (Q : Exit → Act → World → Prop) {o : Oper} {st : St} {k : Value → AHeap → Prop} (h : aone P T o st k) {a : Act} (ht : TR E st.H.dom st.tmps a.tmps) (hR : R T.ng E st.H w) :
    o.wpIn (Fz ro) 0 P a w (After T.ng E st.H w a o.dst k) Q := by
  have hρ := aeval_VR hR ht
  unfold aone at h
  split at h
  · rename_i c hop
    have hnd : ∀ c', o.op ≠ .defer c' := fun c' e => by rw [hop] at e; cases e
    split at h
    · rename_i f hf
      split at h
      · rename_i g first cap hg
        have hfv := hρ f
        rw [hg] at hfv
        obtain ⟨first', cap', e, h1, h2⟩ := hfv.funcp
        have hex : (execOp a.eval o).run P w = (callFunc g (first' ++ c.args.map a.eval ++ cap')).run P w := by
          simp [execOp, hop, resolve, hf, e, Deferred.ofValue, invoke]
        refine invokes_wp hnd hex ?_
        have hpl : PL E st.H.dom (first.toList ++ (c.args.toList.map (aeval T.ng st.tmps) ++ cap.toList)) (first' ++ c.args.map a.eval ++ cap').toList := by
          have hc := (PA.of_map hρ c.args).pl
          simp only [Array.toList_map] at hc
          simp only [Array.toList_append, Array.toList_map, List.append_assoc]
          exact pl_app h1.pl (pl_app hc h2.pl)
        rcases h.run E w _ hR hpl with ⟨hfn, hc⟩ | ⟨v, w', hr, E1, v0, H1, hk, hl, hv, hR1, hF⟩
        · refine .inl ⟨hfn, Calls.mono hc ?_⟩
          rintro x w1 ⟨v', rfl, E1, v0, H1, hk, hl, hv, hR1, hF⟩
          exact ⟨v', rfl, E1, v0, v', H1, hk, rfl, hv, hR1, hF, hl⟩
        · exact .inr ⟨v, w', hr, E1, v0, v, H1, hk, rfl, hv, hR1, hF, hl⟩
      · rename_i y first cap hg
        have hfv := hρ f
        rw [hg] at hfv
        obtain ⟨hy, e⟩ := hfv.yieldp
        have hex : (execOp a.eval o).run P w = (Instr.yield (E y).blk (c.args.map a.eval)).run P w := by
          simp [execOp, hop, resolve, hf, e, Deferred.ofValue, invoke]
        have hc := (PA.of_map hρ c.args).pl
        rw [Array.toList_map] at hc
        exact around_sound Q hnd hex hc hR h
      · exact h.elim
    · rename_i b hb
      refine alast_sound Q hnd h fun r' hr' => ?_
      have := aop_sound hT hR hρ (o := o) (r := r') (by simp only [aop, hop, hb]; exact hr')
      exact this
    · exact h.elim
  · rename_i hop
    refine alast_sound Q (fun c e => ?_) h fun r' hr' => aop_sound hT hR hρ hr'
    rw [e, aop_defer] at h
    exact h

theorem opWpIn_mono {F : Fence} {n : Nat} {o : Oper} {a : Act} {w : World} {next next' : Act → World → Prop} {Q : Exit → Act → World → Prop} (hn : ∀ a w, next a w → next' a w) (h : o.wpIn F n P a w next Q) : o.wpIn F n P a w next' Q := by
  refine ⟨h.1, ?_⟩
  have h2 := h.2
  generalize (o.semAt F.round a.eval).run P w = r at h2 ⊢
  cases r with
  | ok nx w1 =>
    cases nx with
    | value v => exact hn _ _ h2
    | skip => exact hn _ _ h2
    | defer d => exact hn _ _ h2
    | enter f args => exact ⟨h2.1, h2.2.mono fun e w' he => by cases e <;> first | exact hn _ _ he | exact he⟩
    | row r args => exact ⟨h2.1, h2.2.mono fun v w' he => hn _ _ he⟩
    | round l f tmps asg body => exact ⟨h2.1, h2.2.mono fun e w' he => by cases e <;> first | exact hn _ _ he | exact he⟩
    | _ => exact h2
  | halt hh w1 => cases hh <;> exact h2

theorem AP.join {ng : Nat} {N : Dom} {E0 : Emb} {H0 : AHeap} {w0 : World} {E : Emb} {H : AHeap} {w : World} {ds ds1 : List Deferred} {K : Exit → St → Prop} {rs : List Nat} (hd : ds1 = rs.map mark ++ ds) (hm : Mks E H w w0.heap.size rs) (hF : Fr N E0 H0 w0 E H w)
    {e : Exit} {a : Act} {w1 : World} (h : AP ng N E H w ds1 K e a w1) : AP ng N E0 H0 w0 ds K e a w1 := by
  obtain ⟨rs1, E1, st1, h1, h2, h3, h4, h5, h6, h7⟩ := h
  refine ⟨rs1 ++ rs, E1, st1, by rw [h1, hd]; simp, (hm.step h7).app h2 hF.size (fun r hr => (hm.at_ r hr).2.1), h3, h4, h5, h6, hF.trans h7⟩

theorem aops_sound (hT : TabOK P T) {ro : Option Nat} {N : Dom} {ops : Array Oper} {K : Exit → St → Prop} {E0 : Emb} {H0 : AHeap} {w0 : World} {ds : List Deferred} : ∀ (is : List Nat) (os : List Oper) (st : St), is.map (fun (i : Nat) => ops[i]?) = os.map some →
    aops P T ops os st (fun st' => K .normal st') → N.le st.H.dom → ∀ (E : Emb) (w : World) (a : Act), a.defers = ds → TR E st.H.dom st.tmps a.tmps → R T.ng E st.H w → Fr N E0 H0 w0 E st.H w →
      wpOpsIn (Fz ro) 0 P ops (AP T.ng N E0 H0 w0 ds K) is a w := by
  intro is
  induction is with
  | nil =>
    intro os st hm h hN E w a hd ht hR hF
    have : os = [] := by simpa using hm.symm
    subst this
    exact ⟨[], E, st, by simpa using hd, .nil _ _ _ _, h, hN, ht, hR, hF⟩
  | cons i is ih =>
    intro os st hm h hN E w a hd ht hR hF
    cases os with
    | nil => cases hm
    | cons o os =>
      simp only [List.map_cons, List.cons.injEq] at hm
      obtain ⟨hi, hm⟩ := hm
      simp only [wpOpsIn, hi]
      simp only [aops] at h
      split at h
      · rename_i t ht'
        have hw := awanted_real ht ht'
        rw [hw]
        split at h
        · simp only [if_true]
          refine opWpIn_mono ?_ (aone_sound hT _ h ht hR)
          rintro a1 w1 ⟨E1, v, v', H1, hk, rfl, hv, hR1, hF1, hl⟩
          exact ih os _ hm hk (Dom.le_trans hN hl) E1 w1 _ (by rw [put_defers]; exact hd) ((ht.mono hl hF1.ext).put hv) hR1 (hF.trans (hF1.less hN))
        · simp only [Bool.false_eq_true, if_false]
          exact ⟨fun _ _ => trivial, ih os _ hm h hN E w _ (by rw [put_defers]; exact hd) (ht.put (.same rfl)) hR hF⟩
      · exact h.elim

theorem AP.mono {ng : Nat} {N : Dom} {E0 : Emb} {H0 : AHeap} {w0 : World} {ds : List Deferred} {Q Q' : Exit → St → Prop} (h : ∀ e st, Q e st → Q' e st) {e : Exit} {a : Act} {w : World} (hp : AP ng N E0 H0 w0 ds Q e a w) : AP ng N E0 H0 w0 ds Q' e a w := by
  obtain ⟨rs, E1, st1, hd, hm, hq, r⟩ := hp
  exact ⟨rs, E1, st1, hd, hm, h _ _ hq, r⟩

theorem AW.mono {N : Dom} {c : Code} {st : St} {Q Q' : Exit → St → Prop} (h : AW P T.ng N c st Q) (hq : ∀ e st, Q e st → Q' e st) : AW P T.ng N c st Q' :=
  ⟨fun ro hN E w a hro ht hR => wpIn_mono (h.run ro hN E w a hro ht hR) fun _ _ _ => AP.mono hq⟩

/-- What follows a piece, from where it ended. -/
theorem AP.follow {ro : Option Nat} {N : Dom} {E0 : Emb} {H0 : AHeap} {w0 : World} {ds : List Deferred} {rs : List Nat} {K : Exit → St → Prop} {c : Code} {E : Emb} {st : St} {w : World} {a : Act} (h : AW P T.ng N c st K) (hN : N.le st.H.dom) (hro : roOK ro w0) (hd : a.defers = rs.map mark ++ ds) (hm : Mks E st.H w w0.heap.size rs)
    (ht : TR E st.H.dom st.tmps a.tmps) (hR : R T.ng E st.H w) (hF : Fr N E0 H0 w0 E st.H w) : c.wpIn (Fz ro) 0 P (AP T.ng N E0 H0 w0 ds K) a w := by
  refine wpIn_mono (h.run ro hN E w a (hro.step hF) ht hR) ?_
  intro e a1 w1 h1
  exact h1.join hd hm hF

end
/-- The evaluator. -/
def exec (P : Program) (T : Tab) (N : Dom) : Nat → Code → St → (Exit → St → Prop) → Prop
  | 0, _, _, _ => False
  | n + 1, c, st, K => match c with
    | .skip => K .normal st
    | .label _ => K .normal st
    | .ret => K .ret st
    | .exit id => K (.exit id) st
    | .seq a b => exec P T N n a st fun e st' => match e with
      | .normal => exec P T N n b st' K
      | e => K e st'
    | .cond c a b => match aeval T.ng st.tmps c with
      | .bool t => match t with
        | true => exec P T N n a st K
        | false => exec P T N n b st K
      | _ => False
    | .block id c => exec P T N n c st fun e st' => match e with
      | .exit id' => if id' = id then K .normal st' else K (.exit id') st'
      | e => K e st'
    | .region id ops draw => match draw with
      | false => aops P T ops ops.toList st fun st' => K .normal st'
      | true => AW P T.ng N (.region id ops true) st K
    | c => AW P T.ng N c st K

section
variable {P : Program} {T : Tab}
theorem AW.exit_ {N : Dom} {c : Code} {st : St} {K : Exit → St → Prop} {e : Exit} (hk : K e st) (hw : ∀ (ro : Option Nat) (Q : Exit → Act → World → Prop) (a : Act) (w : World), Q e a w → c.wpIn (Fz ro) 0 P Q a w) : AW P T.ng N c st K :=
  ⟨fun ro hN E w a hro ht hR => hw ro _ a w ⟨[], E, st, rfl, .nil _ _ _ _, hk, hN, ht, hR, .refl _ _ _ _⟩⟩

theorem AW.seq {N : Dom} {x y : Code} {st : St} {K : Exit → St → Prop} (h : AW P T.ng N x st fun e st' => match e with | .normal => AW P T.ng N y st' K | e => K e st') : AW P T.ng N (.seq x y) st K := by
  refine ⟨fun ro hN E w a hro ht hR => wpIn_seq ?_⟩
  refine wpIn_mono (h.run ro hN E w a hro ht hR) ?_
  rintro e a1 w1 ⟨rs, E1, st1, hd1, hm1, hk, hN1, ht1, hR1, hF1⟩
  cases e with
  | normal => exact AP.follow hk hN1 hro hd1 hm1 ht1 hR1 hF1
  | _ => exact ⟨rs, E1, st1, hd1, hm1, hk, hN1, ht1, hR1, hF1⟩

theorem AW.cond {N : Dom} {c : Operand} {x y : Code} {st : St} {K : Exit → St → Prop} {t : Bool} (hc : aeval T.ng st.tmps c = .bool t) (h : AW P T.ng N (if t then x else y) st K) : AW P T.ng N (.cond c x y) st K := by
  refine ⟨fun ro hN E w a hro ht hR => ?_⟩
  have e := (hc ▸ aeval_VR hR ht c).bool
  exact wpIn_cond e (h.run ro hN E w a hro ht hR)

theorem AW.block {N : Dom} {id : Nat} {c : Code} {st : St} {K : Exit → St → Prop} (h : AW P T.ng N c st fun e st' => match e with | .exit id' => if id' = id then K .normal st' else K (.exit id') st' | e => K e st') : AW P T.ng N (.block id c) st K := by
  refine ⟨fun ro hN E w a hro ht hR => wpIn_block ?_⟩
  refine wpIn_mono (h.run ro hN E w a hro ht hR) ?_
  rintro e a1 w1 ⟨rs, E1, st1, hd1, hm1, hk, hN1, ht1, hR1, hF1⟩
  cases e with
  | exit id' =>
    simp only at hk
    simp only [Exit.inBlock]
    split
    · rename_i e; rw [if_pos e] at hk; exact ⟨rs, E1, st1, hd1, hm1, hk, hN1, ht1, hR1, hF1⟩
    · rename_i e; rw [if_neg e] at hk; exact ⟨rs, E1, st1, hd1, hm1, hk, hN1, ht1, hR1, hF1⟩
  | _ => exact ⟨rs, E1, st1, hd1, hm1, hk, hN1, ht1, hR1, hF1⟩

theorem AW.region (hT : TabOK P T) {N : Dom} {id : Nat} {ops : Array Oper} {st : St} {K : Exit → St → Prop} (h : aops P T ops ops.toList st fun st' => K .normal st') : AW P T.ng N (.region id ops false) st K := by
  refine ⟨fun ro hN E w a hro ht hR => wpIn_region ?_⟩
  refine aops_sound hT _ _ st ?_ h hN E w a rfl ht hR (.refl _ _ _ _)
  apply List.ext_getElem?
  intro i
  by_cases hi : i < ops.size
  · simp [hi]
  · simp [hi]

theorem exec_sound (hT : TabOK P T) (N : Dom) : ∀ (n : Nat) (c : Code) (st : St) (K : Exit → St → Prop), exec P T N n c st K → AW P T.ng N c st K := by
  intro n
  induction n with
  | zero => intro c st K h; exact h.elim
  | succ n ih =>
    intro c st K h
    simp only [exec] at h
    split at h
    · exact AW.exit_ h fun _ _ _ _ h => wpIn_skip h
    · exact AW.exit_ h fun _ _ _ _ h => wpIn_label h
    · exact AW.exit_ h fun _ _ _ _ h => wpIn_ret h
    · exact AW.exit_ h fun _ _ _ _ h => wpIn_exit h
    · refine AW.seq ((ih _ _ _ h).mono fun e st' hk => ?_)
      cases e with
      | normal => exact ih _ _ _ hk
      | _ => exact hk
    · split at h
      · rename_i t hc
        refine AW.cond hc ?_
        split at h
        · exact ih _ _ _ h
        · exact ih _ _ _ h
      · exact h.elim
    · exact AW.block (ih _ _ _ h)
    · split at h
      · exact AW.region hT h
      · exact h
    · exact h
end
end Go.Ab
