/- The engine, part 17: concrete runs: a function that carries out code on a small world, calls and loops included. -/
import Derived.Test.YtklebhffmnmeoaaDoorEs
import Derived.LoopNIn
namespace Go.Ab
open Go

def clast : AR → Option (Value × AHeap)
  | some (v, H) => match v with
    | some v => some (v, H)
    | none => some (undef, H)
  | none => none

abbrev CallF := FuncId → List Value → AHeap → Option (Value × AHeap)
def cone (T : Tab) (call yld : CallF) (o : Oper) (st : St) : Option (Value × AHeap) :=
  match o.op with
  | .call c => match c.callee with
    | .value f => match aeval T.ng st.tmps f with
      | .func (.func g) first cap => call g (first.toList ++ (c.args.toList.map (aeval T.ng st.tmps) ++ cap.toList)) st.H
      | .func (.yield y) _ _ => yld y (c.args.toList.map (aeval T.ng st.tmps)) st.H
      | _ => none
    | .builtin b => clast (abi T st.H b (c.args.toList.map (aeval T.ng st.tmps)) c.argTypes.toList)
    | .invoke _ _ => none
  | op => clast (aop T st.H (aeval T.ng st.tmps) op)

def cops (T : Tab) (call yld : CallF) (ops : Array Oper) : List Oper → St → Option St
  | [], st => some st
  | o :: os, st => match awanted ops st.tmps o with
    | some t => match t with
      | true => match cone T call yld o st with
        | some (v, H) => cops T call yld ops os ⟨aput st.tmps o.dst v, H⟩
        | none => none
      | false => cops T call yld ops os ⟨aput st.tmps o.dst undef, st.H⟩
    | none => none

def cend (T : Tab) (rs : List ResultVar) (r : Option (Exit × St)) : Option (Value × AHeap) :=
  match r with
  | some (e, st) => match e with
    | .normal | .ret => match aresL T st rs with
      | some vs => some (aresV vs, st.H)
      | none => none
    | _ => none
  | none => none

def veqL (f : Value → Value → Bool) : List Value → List Value → Bool
  | [], [] => true
  | a :: x, b :: y => f a b && veqL f x y
  | _, _ => false
/-- The same value (where it says so). -/
def veq : Nat → Value → Value → Bool
  | _, .bool a, .bool b => a == b
  | _, .int k a, .int k' b => decide (k = k') && decide (a = b)
  | _, .string a, .string b => decide (a.data.toList = b.data.toList)
  | _, .pointer none, .pointer none => true
  | _, .pointer (some ⟨b, o, none⟩), .pointer (some ⟨b', o', none⟩) => decide (b = b') && decide (o = o')
  | _, .slice none l c, .slice none l' c' => decide (l = l') && decide (c = c')
  | _, .slice (some ⟨b, o, none⟩) l c, .slice (some ⟨b', o', none⟩) l' c' => decide (b = b') && decide (o = o') && decide (l = l') && decide (c = c')
  | _, .map none, .map none => true
  | _, .map (some r), .map (some r') => decide (r = r')
  | _, .chan none, .chan none => true
  | _, .chan (some r), .chan (some r') => decide (r = r')
  | _, .nilFunc, .nilFunc => true
  | _, .nilIface, .nilIface => true
  | n + 1, .iface t v, .iface t' v' => decide (t = t') && veq n v v'
  | n + 1, .agg a, .agg b => veqL (veq n) a.toList b.toList
  | n + 1, .tuple a, .tuple b => veqL (veq n) a.toList b.toList
  | n + 1, .func (.func f) a c, .func (.func f') a' c' => decide (f = f') && veqL (veq n) a.toList a'.toList && veqL (veq n) c.toList c'.toList
  | _, _, _ => false

def cpend (T : Tab) (ops : Array Oper) (H : AHeap) (j : Nat) : List (Nat × List Value × Value) → Bool
  | [] => true
  | (i, tm, v) :: r => (match reach ops ops.size i j with
    | true => true
    | false => match ops[i]? with
      | some o => match aop T H (aeval T.ng tm) o.op with
        | some (some u, _) => pureOp o.op && veq 4 u v
        | _ => false
      | none => true) && cpend T ops H j r

def cdraw (T : Tab) (call yld : CallF) (ops : Array Oper) : List Nat → St → List (Nat × List Value × Value) → Option St
  | [], st, _ => some st
  | i :: is, st, pend => match ops[i]? with
    | none => none
    | some o => match awanted ops st.tmps o with
      | none => none
      | some t => match pureOp o.op with
        | true => match t with
          | true => match aop T st.H (aeval T.ng st.tmps) o.op with
            | some (v, _) => match v with
              | some v => cdraw T call yld ops is ⟨aput st.tmps o.dst v, st.H⟩ ((i, st.tmps, v) :: pend)
              | none => none
            | none => none
          | false => cdraw T call yld ops is ⟨aput st.tmps o.dst undef, st.H⟩ pend
        | false => match t with
          | true => match cone T call yld o st with
            | some (v, H1) => match cpend T ops H1 i pend with
              | true => cdraw T call yld ops is ⟨aput st.tmps o.dst v, H1⟩ pend
              | false => none
            | none => none
          | false => cdraw T call yld ops is ⟨aput st.tmps o.dst undef, st.H⟩ pend

def drawFine (ops : Array Oper) (len : Nat) : Bool :=
  drawOK ops len (order ops ops.size []) && (List.range ops.size).all fun i => (preds ops i).all fun k => (order ops ops.size []).contains k

/-- A call: by the oracle, or by the body's run. -/
def ccall (T : Tab) (F : Nat → Option Func) (X : CallF) (run : Code → St → Option (Exit × St)) : CallF := fun f args H =>
  match X f args H with
  | some r => some r
  | none => match F f with
    | some fn => match fn.body with
      | some c => cend T fn.results.toList (run c ⟨args ++ List.replicate (fn.ntmps - args.length) undef, H⟩)
      | none => none
    | none => none
def cyield (run : Code → St → Option (Exit × St)) : CallF := fun y args H =>
  match H[y]? with
  | some (.loop .ready _ tm ps asg body) => if args.length = ps.size then
      (match run asg ⟨aputs tm (ps.toList.zip args), H⟩ with
      | some (.normal, st1) => match st1.H[y]? with
        | some (.loop .ready pd1 tm1 ps1 asg1 body1) => match run body ⟨st1.tmps, st1.H.set y (.loop .busy pd1 tm1 ps1 asg1 body1)⟩ with
          | some (e, st2) => match st2.H[y]? with
            | some (.loop _ _ tm2 ps2 asg2 body2) => match e with
              | .normal => some (.bool true, st2.H.set y (.loop .ready none tm2 ps2 asg2 body2))
              | .ret => some (.bool false, st2.H.set y (.loop .done (some .ret) tm2 ps2 asg2 body2))
              | .exit id => some (.bool false, st2.H.set y (.loop .done (some (.exit id)) tm2 ps2 asg2 body2))
              | _ => none
            | _ => none
          | none => none
        | _ => none
      | _ => none) else none
  | _ => none
/-- Behind a range over a function. -/
def cbehind (tmps : List Value) (y : Nat) : Option (Value × AHeap) → Option (Exit × St)
  | some (_, H2) => match H2[y]? with
    | some (.loop s pd _ _ _ _) => match s with
      | .busy => none
      | _ => match pd with
        | none => some (.normal, ⟨tmps, H2.set y .dead⟩)
        | some .ret => some (.ret, ⟨tmps, H2.set y .dead⟩)
        | some (.exit id) => some (.exit id, ⟨tmps, H2.set y .dead⟩)
        | _ => none
    | _ => none
  | none => none

def crun (T : Tab) (F : Nat → Option Func) (X : CallF) : Nat → Code → St → Option (Exit × St)
  | 0, _, _ => none
  | n + 1, c, st => match c with
    | .skip => some (.normal, st)
    | .label _ => some (.normal, st)
    | .ret => some (.ret, st)
    | .exit id => some (.exit id, st)
    | .seq a b => match crun T F X n a st with
      | some (e, st1) => match e with
        | .normal => crun T F X n b st1
        | e => some (e, st1)
      | none => none
    | .cond c a b => match aeval T.ng st.tmps c with
      | .bool t => match t with
        | true => crun T F X n a st
        | false => crun T F X n b st
      | _ => none
    | .block id c => match crun T F X n c st with
      | some (e, st1) => match e with
        | .exit id' => if id' = id then some (.normal, st1) else some (.exit id', st1)
        | e => some (e, st1)
      | none => none
    | .loop c => match crun T F X n c st with
      | some (e, st1) => match e with
        | .normal => crun T F X n (.loop c) st1
        | e => some (e, st1)
      | none => none
    | .region _ ops draw => match draw with
      | true => match drawFine ops st.tmps.length with
        | true => match cdraw T (ccall T F X (crun T F X n)) (cyield (crun T F X n)) ops (order ops ops.size []) st [] with
          | some st1 => some (.normal, st1)
          | none => none
        | false => none
      | false => match cops T (ccall T F X (crun T F X n)) (cyield (crun T F X n)) ops ops.toList st with
        | some st1 => some (.normal, st1)
        | none => none
    | .rangeFunc g ps asg body => match aeval T.ng st.tmps g with
      | .func (.func f) first cap => match st.H.room with
        | true => match F f with
          | some fn => match fn.body.isSome with
            | true => cbehind st.tmps st.H.next (ccall T F X (crun T F X n) f (first.toList ++ (.func (.yield st.H.next) #[] #[] :: cap.toList)) (st.H.push (.loop .ready none st.tmps ps asg body)))
            | false => none
          | none => none
        | false => none
      | _ => none
    | _ => none

/-- A function's run. -/
def cfun (T : Tab) (F : Nat → Option Func) (X : CallF) (n : Nat) (f : FuncId) (args : List Value) (H : AHeap) : Option (Value × AHeap) :=
  ccall T F X (crun T F X n) f args H

section
variable {P : Program} {T : Tab}

theorem clast_spec {r : AR} {v : Value} {H : AHeap} (h : clast r = some (v, H)) : alast (fun v' H' => v' = v ∧ H' = H) r := by
  unfold clast at h
  unfold alast
  split at h
  · split at h <;> cases h <;> exact ⟨rfl, rfl⟩
  · cases h

theorem cone_spec {call yld : CallF} (hc : ∀ f args H v H', call f args H = some (v, H') → ACalls P T.ng f args H fun v1 H1 => v1 = v ∧ H1 = H') (hyl : ∀ y args H v H', yld y args H = some (v, H') → around P T y args H fun v1 H1 => v1 = v ∧ H1 = H')
    {o : Oper} {st : St} {v : Value} {H : AHeap} (h : cone T call yld o st = some (v, H)) : aone P T o st fun v1 H1 => v1 = v ∧ H1 = H := by
  unfold cone at h
  unfold aone
  cases hop : o.op with
  | call c =>
    simp only [hop] at h ⊢
    cases hcal : c.callee with
    | value f =>
      simp only [hcal] at h ⊢
      split at h
      · rename_i g first cap hg
        simp only [hg]
        exact hc _ _ _ _ _ h
      · rename_i y first cap hg
        simp only [hg]
        exact hyl _ _ _ _ _ h
      · cases h
    | builtin b => simp only [hcal] at h ⊢; exact clast_spec h
    | invoke r m => simp only [hcal] at h; cases h
  | _ => simp only [hop] at h ⊢; exact clast_spec h

theorem alast_mono {k k' : Value → AHeap → Prop} (hk : ∀ v H, k v H → k' v H) {r : AR} (h : alast k r) : alast k' r := by
  unfold alast at h ⊢
  split at h
  · split at h <;> exact hk _ _ h
  · exact h

theorem around_mono {y : Nat} {args : List Value} {H : AHeap} {k k' : Value → AHeap → Prop} (hk : ∀ v H, k v H → k' v H) (h : around P T y args H k) : around P T y args H k' := by
  unfold around at h ⊢
  split at h
  · rename_i hy
    split at h
    · rename_i hl
      simp only [hy, if_pos hl]
      refine h.mono fun e st1 h1 => ?_
      split at h1
      · split at h1
        · rename_i hg
          refine h1.mono fun e st2 h2 => ?_
          split at h2
          · cases e <;> first | exact hk _ _ h2 | exact h2
          · exact h2.elim
        · exact h1.elim
      · exact h1.elim
    · exact h.elim
  · exact h.elim

theorem aone_mono {k k' : Value → AHeap → Prop} (hk : ∀ v H, k v H → k' v H) {o : Oper} {st : St} (h : aone P T o st k) : aone P T o st k' := by
  unfold aone at h ⊢
  split at h
  · split at h
    · split at h
      · exact h.mono hk
      · exact around_mono hk h
      · exact h
    · exact alast_mono hk h
    · exact h
  · exact alast_mono hk h

theorem cops_spec {call yld : CallF} (hc : ∀ f args H v H', call f args H = some (v, H') → ACalls P T.ng f args H fun v1 H1 => v1 = v ∧ H1 = H') (hyl : ∀ y args H v H', yld y args H = some (v, H') → around P T y args H fun v1 H1 => v1 = v ∧ H1 = H')
    {ops : Array Oper} : ∀ (os : List Oper) (st st1 : St), cops T call yld ops os st = some st1 → aops P T ops os st fun st' => st' = st1
  | [], st, st1, h => by cases h; exact rfl
  | o :: os, st, st1, h => by
    simp only [cops] at h
    simp only [aops]
    cases hw : awanted ops st.tmps o with
    | none => rw [hw] at h; cases h
    | some t =>
      rw [hw] at h
      cases t with
      | true =>
        simp only at h ⊢
        split at h
        · rename_i v H hv
          refine aone_mono ?_ (cone_spec hc hyl hv)
          rintro v1 H1 ⟨rfl, rfl⟩
          exact cops_spec hc hyl os _ _ h
        · cases h
      | false => exact cops_spec hc hyl os _ _ h

theorem aops_mono {ops : Array Oper} {K K' : St → Prop} (hk : ∀ st, K st → K' st) : ∀ (os : List Oper) (st : St), aops P T ops os st K → aops P T ops os st K'
  | [], st, h => hk _ h
  | o :: os, st, h => by
    simp only [aops] at h ⊢
    split at h
    · split at h
      · exact aone_mono (fun v H h => aops_mono hk os _ h) h
      · exact aops_mono hk os _ h
    · exact h

theorem veqL_eq {f : Value → Value → Bool} (hf : ∀ a b, f a b = true → a = b) : ∀ x y, veqL f x y = true → x = y
  | [], [], _ => rfl
  | a :: x, b :: y, h => by
    simp only [veqL, Bool.and_eq_true] at h
    rw [hf a b h.1, veqL_eq hf x y h.2]
  | [], _ :: _, h => by cases h
  | _ :: _, [], h => by cases h

theorem veq_eq : ∀ (n : Nat) (a b : Value), veq n a b = true → a = b := by
  intro n
  induction n with
  | zero =>
    intro a b h
    unfold veq at h
    split at h <;> first
      | (cases h; done)
      | (simp at h; simp [h]; done)
      | (rename_i x y; have : x.data.toList = y.data.toList := of_decide_eq_true h; rw [show x = y from by apply ByteArray.ext; apply Array.ext'; exact this]; done)
      | (rename_i e; cases e; done)
  | succ n ih =>
    intro a b h
    unfold veq at h
    split at h <;> first
      | (cases h; done)
      | (simp at h; simp [h]; done)
      | (rename_i x y; have : x.data.toList = y.data.toList := of_decide_eq_true h; rw [show x = y from by apply ByteArray.ext; apply Array.ext'; exact this]; done)
      | skip
    · rename_i t v t' v' e
      cases e
      simp only [Bool.and_eq_true, decide_eq_true_eq] at h
      rw [h.1, ih _ _ h.2]
    · rename_i x y e
      cases e
      rw [show x = y from Array.ext' (veqL_eq ih _ _ h)]
    · rename_i x y e
      cases e
      rw [show x = y from Array.ext' (veqL_eq ih _ _ h)]
    · rename_i f x c f' x' c' e
      cases e
      simp only [Bool.and_eq_true, decide_eq_true_eq] at h
      rw [h.1.1, show x = x' from Array.ext' (veqL_eq ih _ _ h.1.2), show c = c' from Array.ext' (veqL_eq ih _ _ h.2)]

theorem cpend_spec {ops : Array Oper} {H : AHeap} {j : Nat} : ∀ (pend : List (Nat × List Value × Value)), cpend T ops H j pend = true → pendOK T ops H j pend
  | [], _ => trivial
  | (i, tm, v) :: r, h => by
    simp only [cpend, Bool.and_eq_true] at h
    refine ⟨?_, cpend_spec r h.2⟩
    cases hr : reach ops ops.size i j with
    | true => trivial
    | false =>
      have h1 := h.1
      rw [hr] at h1
      simp only at h1 ⊢
      cases ho : ops[i]? with
      | none => trivial
      | some o =>
        rw [ho] at h1
        simp only at h1 ⊢
        split at h1
        · rename_i u H1 hu
          rw [Bool.and_eq_true] at h1
          rw [hu, pure_heap h1.1 hu, veq_eq _ _ _ h1.2]
        · cases h1

theorem cdraw_spec {call yld : CallF} (hc : ∀ f args H v H', call f args H = some (v, H') → ACalls P T.ng f args H fun v1 H1 => v1 = v ∧ H1 = H') (hyl : ∀ y args H v H', yld y args H = some (v, H') → around P T y args H fun v1 H1 => v1 = v ∧ H1 = H')
    {ops : Array Oper} : ∀ (is : List Nat) (st : St) (pend : List (Nat × List Value × Value)) (st1 : St), cdraw T call yld ops is st pend = some st1 → adraw P T ops is st pend fun st' => st' = st1
  | [], st, pend, st1, h => by cases h; exact rfl
  | i :: is, st, pend, st1, h => by
    simp only [cdraw] at h
    simp only [adraw]
    cases ho : ops[i]? with
    | none => rw [ho] at h; cases h
    | some o =>
      simp only [ho] at h ⊢
      cases hw : awanted ops st.tmps o with
      | none => rw [hw] at h; cases h
      | some t =>
        simp only [hw] at h ⊢
        cases hp : pureOp o.op with
        | true =>
          simp only [hp] at h ⊢
          cases t with
          | true =>
            simp only at h ⊢
            split at h
            · rename_i v H1 hv
              split at h
              · simp only [hv]
                exact cdraw_spec hc hyl is _ _ _ h
              · cases h
            · cases h
          | false => exact cdraw_spec hc hyl is _ _ _ h
        | false =>
          simp only [hp] at h ⊢
          cases t with
          | true =>
            simp only at h ⊢
            split at h
            · rename_i v H1 hv
              split at h
              · rename_i hpd
                refine aone_mono ?_ (cone_spec hc hyl hv)
                rintro v1 H2 ⟨rfl, rfl⟩
                exact ⟨cpend_spec _ hpd, cdraw_spec hc hyl is _ _ _ h⟩
              · cases h
            · cases h
          | false => exact cdraw_spec hc hyl is _ _ _ h

theorem adraw_mono {ops : Array Oper} {K K' : St → Prop} (hk : ∀ st, K st → K' st) : ∀ (is : List Nat) (st : St) (pend : List (Nat × List Value × Value)), adraw P T ops is st pend K → adraw P T ops is st pend K'
  | [], st, pend, h => hk _ h
  | i :: is, st, pend, h => by
    simp only [adraw] at h ⊢
    cases ho : ops[i]? with
    | none => rw [ho] at h; exact h.elim
    | some o =>
      simp only [ho] at h ⊢
      cases hw : awanted ops st.tmps o with
      | none => rw [hw] at h; exact h.elim
      | some t =>
        simp only [hw] at h ⊢
        cases hp : pureOp o.op with
        | true =>
          simp only [hp] at h ⊢
          cases t with
          | true =>
            simp only at h ⊢
            split at h
            · split at h
              · exact adraw_mono hk is _ _ h
              · exact h
            · exact h
          | false => exact adraw_mono hk is _ _ h
        | false =>
          simp only [hp] at h ⊢
          cases t with
          | true => exact aone_mono (fun v H h => ⟨h.1, adraw_mono hk is _ _ h.2⟩) h
          | false => exact adraw_mono hk is _ _ h

theorem cend_spec {fn : Func} {r : Option (Exit × St)} {v : Value} {H : AHeap} (h : cend T fn.results.toList r = some (v, H)) :
    ∃ e st, r = some (e, st) ∧ aret T fn.results.toList (fun v1 H1 => v1 = v ∧ H1 = H) e st := by
  unfold cend at h
  split at h
  · rename_i e st
    refine ⟨e, st, rfl, ?_⟩
    unfold aret
    cases e with
    | normal =>
      simp only at h ⊢
      cases hv : aresL T st fn.results.toList with
      | none => rw [hv] at h; cases h
      | some vs => rw [hv] at h; cases h; exact ⟨rfl, rfl⟩
    | ret =>
      simp only at h ⊢
      cases hv : aresL T st fn.results.toList with
      | none => rw [hv] at h; cases h
      | some vs => rw [hv] at h; cases h; exact ⟨rfl, rfl⟩
    | _ => cases h
  · cases h

def FOK (P : Program) (F : Nat → Option Func) : Prop := ∀ f fn, F f = some fn → P.funcs[f]? = some fn ∧ (fn.name == "runtime.NumGoroutine") = false

def fOK (P : Program) (f : Nat) (fn : Func) : Prop := P.funcs[f]? = some fn ∧ (fn.name == "runtime.NumGoroutine") = false
theorem fokI {P : Program} {n : Nat} {c : Prop} [Decidable c] {a b : Option Func} (h1 : ∀ fn, a = some fn → fOK P n fn) (h2 : ∀ fn, b = some fn → fOK P n fn) : ∀ fn, (if c then a else b) = some fn → fOK P n fn := by
  intro i h
  split at h
  · exact h1 i h
  · exact h2 i h
theorem fokL {P : Program} {n a : Nat} {x : Func} (h1 : fOK P a x) : ∀ fn, (if n = a then some x else none) = some fn → fOK P n fn := by
  intro i h
  split at h
  · rename_i e; cases h; rw [e]; exact h1
  · cases h

def XOK (P : Program) (ng : Nat) (X : CallF) : Prop := ∀ f args H v H', X f args H = some (v, H') → ACalls P ng f args H fun v1 H1 => v1 = v ∧ H1 = H'

theorem ccall_spec (hT : TabOK P T) {F : Nat → Option Func} (hF : FOK P F) {X : CallF} (hX : XOK P T.ng X) {run : Code → St → Option (Exit × St)}
    (hrun : ∀ (c : Code) (st : St) (e : Exit) (st1 : St), run c st = some (e, st1) → ∀ N, AW P T.ng N c st fun e' st' => e' = e ∧ st' = st1) {f : FuncId} {args : List Value} {H : AHeap} {v : Value} {H' : AHeap}
    (h : ccall T F X run f args H = some (v, H')) : ACalls P T.ng f args H fun v1 H1 => v1 = v ∧ H1 = H' := by
  unfold ccall at h
  split at h
  · rename_i r hr
    cases h
    exact hX _ _ _ _ _ hr
  · split at h
    · rename_i fn hfn
      split at h
      · rename_i c hb
        obtain ⟨e, st, h3, h4⟩ := cend_spec h
        refine ACalls.of_exec hT (hF _ _ hfn).1 hb (hF _ _ hfn).2 ?_
        refine (hrun _ _ _ _ h3 _).mono ?_
        rintro e' st' ⟨rfl, rfl⟩
        exact h4
      · cases h
    · cases h

theorem cyield_spec {run : Code → St → Option (Exit × St)} (hrun : ∀ (c : Code) (st : St) (e : Exit) (st1 : St), run c st = some (e, st1) → ∀ N, AW P T.ng N c st fun e' st' => e' = e ∧ st' = st1)
    {y : Nat} {args : List Value} {H : AHeap} {v : Value} {H' : AHeap} (h : cyield run y args H = some (v, H')) : around P T y args H fun v1 H1 => v1 = v ∧ H1 = H' := by
  unfold cyield at h
  unfold around
  split at h
  · rename_i pd tm ps asg body hy
    split at h
    · rename_i hl
      simp only [hy, if_pos hl]
      split at h
      · rename_i st1 h1
        refine (hrun _ _ _ _ h1 _).mono ?_
        rintro e' st' ⟨rfl, rfl⟩
        simp only
        split at h
        · rename_i hy1
          simp only [hy1]
          split at h
          · rename_i e2 st2 h2
            refine (hrun _ _ _ _ h2 _).mono ?_
            rintro e' st' ⟨rfl, rfl⟩
            split at h
            · rename_i hy2
              simp only [hy2]
              cases e' <;> simp only at h ⊢ <;> first
                | (cases h; exact ⟨rfl, rfl⟩)
                | (cases h; done)
            · cases h
          · cases h
        · cases h
      · cases h
    · cases h
  · cases h

theorem cbehind_spec {st : St} {r : Option (Value × AHeap)} {e : Exit} {st1 : St} (h : cbehind st.tmps st.H.next r = some (e, st1)) : ∃ v H2, r = some (v, H2) ∧ RFPost st (fun e' st' => e' = e ∧ st' = st1) H2 := by
  unfold cbehind at h
  split at h
  · rename_i v H2
    refine ⟨v, H2, rfl, ?_⟩
    unfold RFPost
    split at h
    · rename_i s pd tm ps asg body hy
      simp only [hy]
      split at h
      · cases h
      · rename_i hs
        refine ⟨fun e => hs e, ?_⟩
        split at h <;> first
          | (cases h; exact ⟨rfl, rfl⟩)
          | (cases h; done)
    · cases h
  · cases h

theorem crun_both (hT : TabOK P T) (hm : P.follows .mixedOrders = true) {F : Nat → Option Func} (hF : FOK P F) {X : CallF} (hX : XOK P T.ng X) : ∀ (n : Nat),
    (∀ (c : Code) (st : St) (e : Exit) (st1 : St), crun T F X n c st = some (e, st1) → ∀ N, AW P T.ng N c st fun e' st' => e' = e ∧ st' = st1) ∧
    (∀ (c : Code) (st : St) (e : Exit) (st1 : St), crun T F X n (.loop c) st = some (e, st1) → ∀ (ro : Option Nat) (N : Dom), N.le st.H.dom → ∀ (E0 : Emb) (H0 : AHeap) (w0 : World) (ds : List Deferred) (rs : List Nat) (E : Emb) (w : World) (a : Act), roOK ro w0 → a.defers = rs.map mark ++ ds → Mks E st.H w w0.heap.size rs →
      TR E st.H.dom st.tmps a.tmps → R T.ng E st.H w → Fr N E0 H0 w0 E st.H w → Code.roundsIn (Fz ro) 0 P c (AP T.ng N E0 H0 w0 ds fun e' st' => e' = e ∧ st' = st1) n a w) := by
  intro n
  induction n with
  | zero => exact ⟨fun c st e st1 h => (by cases h), fun c st e st1 h => (by cases h)⟩
  | succ n ih =>
    have hB : ∀ (c : Code) (st : St) (e : Exit) (st1 : St), crun T F X (n + 1) (.loop c) st = some (e, st1) → ∀ (ro : Option Nat) (N : Dom), N.le st.H.dom → ∀ (E0 : Emb) (H0 : AHeap) (w0 : World) (ds : List Deferred) (rs : List Nat) (E : Emb) (w : World) (a : Act), roOK ro w0 → a.defers = rs.map mark ++ ds → Mks E st.H w w0.heap.size rs →
      TR E st.H.dom st.tmps a.tmps → R T.ng E st.H w → Fr N E0 H0 w0 E st.H w → Code.roundsIn (Fz ro) 0 P c (AP T.ng N E0 H0 w0 ds fun e' st' => e' = e ∧ st' = st1) (n + 1) a w := by
      intro c st e st1 h ro N hN E0 H0 w0 ds rs E w a hro hd hmk ht hR hFr
      simp only [crun] at h
      rw [roundsIn_succ]
      split at h
      · rename_i e2 st2 h2
        refine wpIn_mono ((ih.1 _ _ _ _ h2 N).run ro hN E w a (hro.step hFr) ht hR) ?_
        intro e3 a1 w1 hq
        obtain ⟨rs1, E1, st3, hd1, hm1, ⟨he, hs⟩, hN1, ht1, hR1, hF1⟩ := hq.join hd hmk hFr
        subst hs
        cases e3 with
        | normal => subst he; exact ih.2 _ _ _ _ h ro N hN1 E0 H0 w0 ds rs1 E1 w1 a1 hro hd1 hm1 ht1 hR1 hF1
        | _ => subst he; cases h; exact ⟨rs1, E1, _, hd1, hm1, ⟨rfl, rfl⟩, hN1, ht1, hR1, hF1⟩
      · cases h
    refine ⟨?_, hB⟩
    intro c st e st1 h N
    have hcall : ∀ f args H v H', ccall T F X (crun T F X n) f args H = some (v, H') → ACalls P T.ng f args H fun v1 H1 => v1 = v ∧ H1 = H' := fun f args H v H' hh => ccall_spec hT hF hX ih.1 hh
    have hyl : ∀ y args H v H', cyield (crun T F X n) y args H = some (v, H') → around P T y args H fun v1 H1 => v1 = v ∧ H1 = H' := fun y args H v H' hh => cyield_spec ih.1 hh
    cases c with
    | skip => simp only [crun] at h; cases h; exact AW.exit_ ⟨rfl, rfl⟩ fun _ _ _ _ h => wpIn_skip h
    | label l => simp only [crun] at h; cases h; exact AW.exit_ ⟨rfl, rfl⟩ fun _ _ _ _ h => wpIn_label h
    | ret => simp only [crun] at h; cases h; exact AW.exit_ ⟨rfl, rfl⟩ fun _ _ _ _ h => wpIn_ret h
    | exit id => simp only [crun] at h; cases h; exact AW.exit_ ⟨rfl, rfl⟩ fun _ _ _ _ h => wpIn_exit h
    | seq x y =>
      simp only [crun] at h
      split at h
      · rename_i e2 st2 h2
        refine AW.seq ((ih.1 _ _ _ _ h2 N).mono ?_)
        rintro e3 st3 ⟨he, hs⟩
        subst hs
        cases e3 with
        | normal => subst he; exact ih.1 _ _ _ _ h N
        | _ => subst he; cases h; exact ⟨rfl, rfl⟩
      · cases h
    | cond c x y =>
      simp only [crun] at h
      split at h
      · rename_i t hc
        refine AW.cond hc ?_
        cases t with
        | true => exact ih.1 _ _ _ _ h N
        | false => exact ih.1 _ _ _ _ h N
      · cases h
    | block id c =>
      simp only [crun] at h
      split at h
      · rename_i e2 st2 h2
        refine AW.block ((ih.1 _ _ _ _ h2 N).mono ?_)
        rintro e3 st3 ⟨he, hs⟩
        subst hs
        cases e3 with
        | exit id' =>
          subst he
          simp only at h ⊢
          split
          · rename_i hid; rw [if_pos hid] at h; cases h; exact ⟨rfl, rfl⟩
          · rename_i hid; rw [if_neg hid] at h; cases h; exact ⟨rfl, rfl⟩
        | _ => subst he; cases h; exact ⟨rfl, rfl⟩
      · cases h
    | loop c =>
      refine ⟨fun ro hN E w a hro ht hR => wpIn_loop_rounds (n + 1) ?_⟩
      exact hB c st e st1 h ro N hN E st.H w a.defers [] E w a hro rfl (.nil _ _ _ _) ht hR (.refl _ _ _ _)
    | region id ops draw =>
      simp only [crun] at h
      split at h
      · split at h
        · rename_i hfine
          split at h
          · rename_i st2 h2
            cases h
            simp only [drawFine, Bool.and_eq_true] at hfine
            refine AW.draw hT hm hfine.1 hfine.2 ?_
            exact adraw_mono (fun st' h => ⟨rfl, h⟩) _ _ _ (cdraw_spec (P := P) hcall hyl _ _ _ _ h2)
          · cases h
        · cases h
      · split at h
        · rename_i st2 h2
          cases h
          exact AW.region hT (aops_mono (fun st' h => ⟨rfl, h⟩) ops.toList st (cops_spec (P := P) hcall hyl _ _ _ h2))
        · cases h
    | rangeFunc g ps asg body =>
      simp only [crun] at h
      split at h
      · rename_i f first cap hg
        split at h
        · rename_i hroom
          split at h
          · rename_i fn hfn
            split at h
            · rename_i hb
              obtain ⟨v, H2, h1, h2⟩ := cbehind_spec h
              refine AW.rangeFunc (room_lt hroom) hg ((hcall _ _ _ _ _ h1).mono ?_) ⟨fn, (hF _ _ hfn).1, hb⟩
              rintro v1 H1 ⟨rfl, rfl⟩
              exact h2
            · cases h
          · cases h
        · cases h
      · cases h
    | _ => simp only [crun] at h; cases h

/-- A concrete run is a contract. -/
theorem ACalls.of_cfun (hT : TabOK P T) (hm : P.follows .mixedOrders = true) {F : Nat → Option Func} (hF : FOK P F) {X : CallF} (hX : XOK P T.ng X) {n : Nat} {f : FuncId} {args : List Value} {H : AHeap} {v : Value} {H' : AHeap} (h : cfun T F X n f args H = some (v, H')) :
    ACalls P T.ng f args H fun v1 H1 => v1 = v ∧ H1 = H' :=
  ccall_spec hT hF hX (crun_both hT hm hF hX n).1 h
end
end Go.Ab
