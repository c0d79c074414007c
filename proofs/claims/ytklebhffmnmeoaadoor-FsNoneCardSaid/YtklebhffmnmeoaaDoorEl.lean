/- The engine, part 12: functions, loops, forgetting. -/
import Derived.Test.YtklebhffmnmeoaaDoorEk
namespace Go.Ab
open Go

def aresL (T : Tab) (st : St) : List ResultVar → Option (List Value)
  | [] => some []
  | r :: rs => match (match r with
      | .tmp t => some (st.tmps.getD t undef)
      | .cell a t => aload T st.H t (st.tmps.getD a undef)) with
    | some v => match aresL T st rs with
      | some vs => some (v :: vs)
      | none => none
    | none => none

def aresV : List Value → Value
  | [v] => v
  | vs => .tuple vs.toArray

def aret (T : Tab) (rs : List ResultVar) (Q : Value → AHeap → Prop) (e : Exit) (st : St) : Prop :=
  match e with
  | .normal | .ret => match aresL T st rs with
    | some vs => Q (aresV vs) st.H
    | none => False
  | _ => False

section
variable {P : Program} {T : Tab}

theorem aresL_run (hT : TabOK P T) {E : Emb} {w : World} {st : St} {a : Act} (ht : TR E st.H.dom st.tmps a.tmps) (hR : R T.ng E st.H w) : ∀ (rs : List ResultVar) (vs : List Value), aresL T st rs = some vs →
    ∃ vs', (rs.mapM (fun (r : ResultVar) => match r with
      | .tmp t => (pure (a.tmps.getD t undef) : Sem Value)
      | .cell x t => do loadVar t (← asAddr (a.tmps.getD x undef)))).run P w = .ok vs' w ∧ PL E st.H.dom vs vs' := by
  have hget : ∀ t, VR E st.H.dom (st.tmps.getD t undef) (a.tmps.getD t undef) := fun t => aeval_VR hR ht (.tmp t)
  intro rs
  induction rs with
  | nil => intro vs h; simp only [aresL] at h; cases h; exact ⟨[], rfl, rfl, fun j hj => absurd hj (by simp)⟩
  | cons r rs ih =>
    intro vs h
    simp only [aresL] at h
    split at h
    · rename_i v hv
      split at h
      · rename_i vs1 hvs
        cases h
        obtain ⟨vs', h1, h2⟩ := ih _ hvs
        have one : ∃ v', ((match r with
            | .tmp t => (pure (a.tmps.getD t undef) : Sem Value)
            | .cell x t => do loadVar t (← asAddr (a.tmps.getD x undef))) : Sem Value).run P w = .ok v' w ∧ VR E st.H.dom v v' := by
          cases r with
          | tmp t => simp only at hv; cases hv; exact ⟨_, rfl, hget t⟩
          | cell x t =>
            simp only at hv
            obtain ⟨v', g1, g2⟩ := aload_run hT hR (hget x) hv
            have hx := hget x
            unfold aload at hv
            split at hv
            · rename_i b o hb
              rw [hb] at hx
              obtain ⟨_, e⟩ := hx.pointer
              refine ⟨v', ?_, g2⟩
              simp only [e, Instr.loadAt, Instr.sureAddr, Sem.run_bind, Sem.run_pure, Result.andThen] at g1
              simp only [e, asAddr, Sem.run_bind, Sem.run_pure, Result.andThen, g1]
            · cases hv
        obtain ⟨v', g1, g2⟩ := one
        refine ⟨v' :: vs', ?_, by simp [h2.1], fun j hj => ?_⟩
        · rw [List.mapM_cons]
          simp only [Sem.run_bind, g1, Result.andThen, h1, Sem.run_pure]
        · cases j with
          | zero => exact g2
          | succ j => exact h2.2 j (by simpa using hj)
      · cases h
    · cases h

theorem results_sound (hT : TabOK P T) {E : Emb} {w : World} {st : St} {a : Act} (ht : TR E st.H.dom st.tmps a.tmps) (hR : R T.ng E st.H w) {fn : Func} {vs : List Value} (h : aresL T st fn.results.toList = some vs) :
    ∃ v', (results fn a.tmps).run P w = .ok v' w ∧ VR E st.H.dom (aresV vs) v' := by
  obtain ⟨vs', h1, h2, h3⟩ := aresL_run hT ht hR _ _ h
  have hm : (fn.results.mapM (fun (r : ResultVar) => match r with
      | .tmp t => (pure (a.tmps.getD t undef) : Sem Value)
      | .cell x t => do loadVar t (← asAddr (a.tmps.getD x undef)))).run P w = .ok vs'.toArray w := by
    rw [Array.mapM_eq_mapM_toList, Sem.run_map, h1]
    rfl
  have hrun : (results fn a.tmps).run P w = .ok (if h : vs'.toArray.size = 1 then vs'.toArray[0] else .tuple vs'.toArray) w := by
    unfold results
    rw [Sem.run_bind]
    exact congrArg (fun r => Result.andThen r _) hm
  refine ⟨_, hrun, ?_⟩
  match vs, vs', h2, h3 with
  | [], [], _, _ => exact .same rfl
  | [v], [v'], _, h3 => exact h3 0 (by simp)
  | v :: u :: r, v' :: u' :: r', h2, h3 =>
    have hn : ¬ ((v' :: u' :: r').toArray.size = 1) := by simp
    rw [dif_neg hn]
    refine .tuple (by simpa using h2) fun i hi => ?_
    rw [getD_toArray, getD_toArray]
    exact h3 i (by simpa using hi)

theorem live_not_deferred {ng : Nat} {E : Emb} {H : AHeap} {w : World} (hR : R ng E H w) {r : Nat} {x : Option (List Deferred)} (hr : w.heap[r]? = some (.deferred x)) {i : Nat} {o : AObj} (ho : H[i]? = some o) (hl : o.live = true) : (E i).blk ≠ r := by
  intro e
  have h := hR.obj i o ho
  rw [← e] at hr
  cases o with
  | dead => cases hl
  | ro c => obtain ⟨c', t, fz, h1, _⟩ := h; rw [h1] at hr; cases hr
  | var ty c => obtain ⟨c', t, h1, _⟩ := h; rw [h1] at hr; cases hr
  | row t sz c => obtain ⟨c', lo, hi, h1, _⟩ := h; rw [h1] at hr; cases hr
  | map es k => obtain ⟨es', h1, _⟩ := h; rw [h1] at hr; cases hr
  | mapIter m s se st => rw [h.2.1] at hr; cases hr
  | strIter s pos => rw [h.1] at hr; cases hr
  | loop st pd tm ps asg body => obtain ⟨tm', f, d, h1, _⟩ := h; rw [h1] at hr; cases hr

theorem R.shut {ng : Nat} {E : Emb} {H : AHeap} {w : World} (hR : R ng E H w) {r : Nat} {x : Option (List Deferred)} (hr : w.heap[r]? = some (.deferred x)) (O : Obj) : R ng E H (w.putObj r O) :=
  ⟨hR.glob, hR.ngH, hR.inj, fun i o ho => (hR.obj i o ho).mono (Dom.le_refl _) (fun _ _ => rfl) ⟨o, ho⟩ fun hl => put_loop_ne (live_not_deferred hR hr ho hl)⟩

theorem Fr.shut {N : Dom} {E E' : Emb} {H H' : AHeap} {w w' : World} (hF : Fr N E H w E' H' w') {r : Nat} (hb : w.heap.size ≤ r) (O : Obj) : Fr N E H w E' H' (w'.putObj r O) :=
  ⟨hF.ext, by rw [put_loop_size]; exact hF.size, fun b hb' hn => by rw [put_loop_ne (by omega)]; exact hF.keep b hb' hn, hF.own, hF.env.trans ⟨rfl, rfl, rfl⟩, fun b l hl => by
    have hlt : b < w.heap.size := by
      rcases Nat.lt_or_ge b w.heap.size with h | h
      · exact h
      · rw [Array.getElem?_eq_none h] at hl; cases hl
    rw [put_loop_ne (by omega)]; exact hF.loops b l hl⟩

theorem leaves_marks {E0 : Emb} {H0 : AHeap} {w0 : World} {fn : Func} {tmps : Array Value} {Q : Ending → World → Prop} {E : Emb} {H : AHeap} (hend : ∀ w, R T.ng E H w → Fr H0.dom E0 H0 w0 E H w → ∃ v, (results fn tmps).run P w = .ok v w ∧ Q (.returned v) w) :
    ∀ (rs : List Nat) (w : World), rs.Nodup → (∀ r ∈ rs, w0.heap.size ≤ r ∧ w.heap[r]? = some (.deferred (some []))) → R T.ng E H w → Fr H0.dom E0 H0 w0 E H w → LeavesInM Fence.wide 0 P fn tmps Q (rs.map mark) .returning w
  | [], w, _, _, hR, hF => hend w hR hF
  | r :: rs, w, hnd, h, hR, hF => by
    obtain ⟨h1, h2⟩ := h r (by simp)
    refine ⟨fun h => (by cases h), .inl ⟨r, _, rfl, run_takeDeferred h2, ?_⟩⟩
    obtain ⟨hn1, hn2⟩ := List.nodup_cons.1 hnd
    exact leaves_marks hend rs _ hn2 (fun s hs => by
      obtain ⟨g1, g2⟩ := h s (by simp [hs])
      exact ⟨g1, (put_loop_ne (b := s) (l := r) (fun e => hn1 (by rw [← e]; exact hs))).trans g2⟩) (hR.shut h2 _) (hF.shut h1 _)

/-- A function by its body. -/
theorem ACalls.of_exec (hT : TabOK P T) {f : FuncId} {fn : Func} {c : Code} {args : List Value} {H : AHeap} {Q : Value → AHeap → Prop} (hf : P.funcs[f]? = some fn) (hb : fn.body = some c) (hname : (fn.name == "runtime.NumGoroutine") = false)
    (h : AW P T.ng H.dom c ⟨args ++ List.replicate (fn.ntmps - args.length) undef, H⟩ (aret T fn.results.toList Q)) : ACalls P T.ng f args H Q := by
  refine ⟨fun E w args' hR hpl => .inl ⟨⟨fn, hf, by rw [hb]; rfl, hname⟩, (callsIn_wide (n := 0)).1 (callsIn_of_wp_marks hf hb trivial ?_)⟩⟩
  have hl : args.length = args'.size := by have := hpl.1; simpa using this
  refine wpIn_mono (h.run none (Dom.le_refl _) E w { tmps := args' ++ Array.replicate (fn.ntmps - args'.size) undef, defers := [] } (fun l hl => by cases hl) ?_ hR) ?_
  · refine ⟨by simp [hl], fun i hi => ?_⟩
    simp only [List.getD_eq_getElem?_getD, Array.getD_eq_getD_getElem?]
    by_cases hi' : i < args.length
    · rw [List.getElem?_append_left hi', Array.getElem?_append_left (by omega)]
      have := hpl.2 i hi'
      simpa [List.getD_eq_getElem?_getD] using this
    · rw [List.getElem?_append_right (by omega), Array.getElem?_append_right (by omega), hl]
      simp only [List.getElem?_replicate, Array.getElem?_replicate]
      split <;> exact .same rfl
  · rintro e a1 w1 ⟨rs, E1, st1, hd1, hm1, hk, hN1, ht1, hR1, hF1⟩
    have key : ∀ vs, aresL T st1 fn.results.toList = some vs → Q (aresV vs) st1.H → LeavesInM Fence.wide 0 P fn a1.tmps (fun e w' => ∃ v', e = Ending.returned v' ∧ ∃ E' v0 H', Q v0 H' ∧ H.dom.le H'.dom ∧ VR E' H'.dom v0 v' ∧ R T.ng E' H' w' ∧ Fr H.dom E H w E' H' w') a1.defers .returning w1 := by
      intro vs hvs hq
      rw [hd1, List.append_nil]
      refine leaves_marks (fun w2 hR2 hF2 => ?_) rs w1 hm1.nd (fun r hr => ⟨(hm1.at_ r hr).1, (hm1.at_ r hr).2.2.1⟩) hR1 hF1
      obtain ⟨v', g1, g2⟩ := results_sound hT ht1 hR2 hvs
      exact ⟨v', g1, v', rfl, E1, _, st1.H, hq, hN1, g2, hR2, hF2⟩
    cases e with
    | normal =>
      simp only [aret] at hk
      split at hk
      · rename_i vs hvs; exact key vs hvs hk
      · exact hk.elim
    | ret =>
      simp only [aret] at hk
      split at hk
      · rename_i vs hvs; exact key vs hvs hk
      · exact hk.elim
    | _ => exact hk.elim

/-- What a range over a function does when the function has returned. -/
def RFPost (st : St) (K : Exit → St → Prop) (H2 : AHeap) : Prop :=
  match H2[st.H.next]? with
  | some (.loop s pd _ _ _ _) => s ≠ .busy ∧ (match pd with
    | none => K .normal ⟨st.tmps, H2.set st.H.next .dead⟩
    | some .ret => K .ret ⟨st.tmps, H2.set st.H.next .dead⟩
    | some (.exit id) => K (.exit id) ⟨st.tmps, H2.set st.H.next .dead⟩
    | _ => False)
  | _ => False
/-- A range over a function. -/
theorem AW.rangeFunc {N : Dom} {g : Operand} {ps : Array Tmp} {asg body : Code} {st : St} {K : Exit → St → Prop} {f : FuncId} {first cap : Array Value} (hr : st.H.next < BG) (hg : aeval T.ng st.tmps g = .func (.func f) first cap)
    (h : ACalls P T.ng f (first.toList ++ (Value.func (.yield st.H.next) #[] #[] :: cap.toList)) (st.H.push (.loop .ready none st.tmps ps asg body)) (fun _ H2 => RFPost st K H2)) (hbody : ∃ fn, P.funcs[f]? = some fn ∧ fn.body.isSome = true) : AW P T.ng N (.rangeFunc g ps asg body) st K := by
  refine ⟨fun ro hN E w a hro ht hR => wpIn_rangeFunc fun fnId _ => ?_⟩
  -- the record is laid
  have hlay : ∃ (l : Nat) (mk : List Deferred) (w1 : World) (rs : List Nat), (Instr.enterLoop fnId a.tmps ps asg body (Fz ro).round).run P w = .ok (l, mk) w1 ∧ mk = rs.map mark ∧ Mks E st.H w1 w.heap.size rs ∧
      (upd E st.H.next ⟨l, 0, 0, 0⟩ st.H.next).blk = l ∧ R T.ng (upd E st.H.next ⟨l, 0, 0, 0⟩) (st.H.push (.loop .ready none st.tmps ps asg body)) w1 ∧ Fr st.H.dom E st.H w (upd E st.H.next ⟨l, 0, 0, 0⟩) (st.H.push (.loop .ready none st.tmps ps asg body)) w1 ∧
      Mks (upd E st.H.next ⟨l, 0, 0, 0⟩) (st.H.push (.loop .ready none st.tmps ps asg body)) w1 w.heap.size rs := by
    have hnew : ∀ (w0 : World) (d : Nat), R T.ng E st.H w0 → ∀ (_ : TR E st.H.dom st.tmps a.tmps), R T.ng (upd E st.H.next ⟨w0.heap.size, 0, 0, 0⟩) (st.H.push (.loop .ready none st.tmps ps asg body)) (w0.alloc (.loop { state := .ready, pending := none, fn := fnId, tmps := a.tmps, params := ps, assign := asg, body := body, defers := d })) ∧
        Fr st.H.dom E st.H w0 (upd E st.H.next ⟨w0.heap.size, 0, 0, 0⟩) (st.H.push (.loop .ready none st.tmps ps asg body)) (w0.alloc (.loop { state := .ready, pending := none, fn := fnId, tmps := a.tmps, params := ps, assign := asg, body := body, defers := d })) := by
      intro w0 d hR0 ht0
      refine hR0.new hr _ _ 0 0 ⟨a.tmps, fnId, d, by rw [upd_same]; exact heap_push_new _ _, ht0.1, ⟨by rw [ht0.1]; simp, fun j hj => ?_⟩, by rw [upd_same]⟩
      have := (ht0.2 j hj).mono (E' := upd E st.H.next ⟨w0.heap.size, 0, 0, 0⟩) (dom_push (o := .loop .ready none st.tmps ps asg body) hr) fun i hi => upd_dom hr _ _ _ hi
      simpa using this
    cases ro with
    | none =>
      have hj : R T.ng E st.H (w.alloc (.deferred (some []))) :=
        ⟨hR.glob, hR.ngH, hR.inj, fun i o ho => (hR.obj i o ho).mono (Dom.le_refl _) (fun _ _ => rfl) ⟨o, ho⟩ fun hl => heap_push_lt w _ _ (blk_lt hR ⟨o, ho, hl⟩)⟩
      have hjF : Fr st.H.dom E st.H w E st.H (w.alloc (.deferred (some []))) :=
        ⟨fun _ _ => rfl, by simp, fun b hb _ => heap_push_lt w _ b hb, fun i hi => .inl ⟨i, hi, rfl⟩, ⟨rfl, rfl, rfl⟩, fun b r hb => ⟨r, by
          rw [heap_push_lt w _ b (by rcases Nat.lt_or_ge b w.heap.size with hl | hl; exact hl; rw [Array.getElem?_eq_none hl] at hb; cases hb)]; exact hb⟩⟩
      obtain ⟨g1, g2⟩ := hnew (w.alloc (.deferred (some []))) w.heap.size hj ht
      have hm : Mks E st.H (w.alloc (.deferred (some []))) w.heap.size [w.heap.size] := ⟨by simp, fun r hr => by
        simp only [List.mem_singleton] at hr; subst hr
        exact ⟨Nat.le_refl _, by simp, heap_push_new _ _, fun i hi e => by have := blk_lt hR (rw_live hi); omega⟩⟩
      rw [World.size_alloc] at g1 g2
      refine ⟨_, _, _, [w.heap.size], run_enterLoop_outer _ _ _ _ _, rfl, ?_, by rw [upd_same], g1, hjF.trans g2, hm.step g2⟩
      refine ⟨hm.nd, fun r hr => ?_⟩
      obtain ⟨q1, q2, q3, q4⟩ := hm.at_ r hr
      exact ⟨q1, by simp at q2 ⊢; omega, by rw [heap_push_lt _ _ _ q2]; exact q3, q4⟩
    | some l =>
      obtain ⟨r, hl⟩ := hro l rfl
      obtain ⟨g1, g2⟩ := hnew w r.defers hR ht
      refine ⟨w.heap.size, [], _, [], ?_, rfl, .nil _ _ _ _, by rw [upd_same], g1, g2, .nil _ _ _ _⟩
      show (Instr.enterLoop fnId a.tmps ps asg body (some l)).run P w = _
      unfold Instr.enterLoop
      simp only [Sem.run_bind, run_getLoop hl, Result.andThen, Sem.run_pure, run_newObj_alloc]
  obtain ⟨l, mk, w1, rs, he, hmk, hm0, hbl, hR1, hF1, hm1⟩ := hlay
  rw [upd_same] at hbl
  have hgv := aeval_VR hR ht g
  rw [hg] at hgv
  obtain ⟨first', cap', eg, p1, p2⟩ := hgv.funcp
  obtain ⟨fn, hfn, hfb⟩ := hbody
  have hargs : PL (upd E st.H.next ⟨l, 0, 0, 0⟩) (st.H.push (.loop .ready none st.tmps ps asg body)).dom (first.toList ++ (Value.func (.yield st.H.next) #[] #[] :: cap.toList)) (first' ++ #[Value.func (.yield l) #[] #[]] ++ cap').toList := by
    have hmono : ∀ {x y : List Value}, PL E st.H.dom x y → PL (upd E st.H.next ⟨l, 0, 0, 0⟩) (st.H.push (.loop .ready none st.tmps ps asg body)).dom x y := fun h => h.mono (dom_push hr) fun i hi => upd_dom hr _ _ _ hi
    have hy : PL (upd E st.H.next ⟨l, 0, 0, 0⟩) (st.H.push (.loop .ready none st.tmps ps asg body)).dom [Value.func (.yield st.H.next) #[] #[]] [Value.func (.yield l) #[] #[]] := by
      refine ⟨rfl, fun j hj => ?_⟩
      simp at hj; subst hj
      have := VR.yield (E := upd E st.H.next ⟨l, 0, 0, 0⟩) (n := (st.H.push (.loop .ready none st.tmps ps asg body)).dom) (y := st.H.next) (push_dom hr)
      rw [upd_same] at this
      exact this
    have := pl_app (hmono p1.pl) (pl_app hy (hmono p2.pl))
    simpa using this
  have hinv := h.run _ _ (first' ++ #[Value.func (.yield l) #[] #[]] ++ cap') hR1 hargs
  have hc : (fn.name == "runtime.NumGoroutine") = false ∧ Calls P f (first' ++ #[Value.func (.yield l) #[] #[]] ++ cap') w1 fun e w' => ∃ v', e = .returned v' ∧ ∃ E' v H', RFPost st K H' ∧ (st.H.push (.loop .ready none st.tmps ps asg body)).dom.le H'.dom ∧ VR E' H'.dom v v' ∧ R T.ng E' H' w' ∧ Fr (st.H.push (.loop .ready none st.tmps ps asg body)).dom (upd E st.H.next ⟨l, 0, 0, 0⟩) (st.H.push (.loop .ready none st.tmps ps asg body)) w1 E' H' w' := by
    rcases hinv with ⟨⟨fn', g1, g2, g3⟩, hc⟩ | ⟨v, w', hrun, _⟩
    · rw [hfn] at g1; cases g1
      exact ⟨g3, hc⟩
    · exfalso
      cases hnm : (fn.name == "runtime.NumGoroutine") with
      | true =>
        have hnm' : fn.name = "runtime.NumGoroutine" := by simpa using hnm
        simp [callFunc, hfn, hnm'] at hrun
      | false =>
        have hb : fn.body.isNone = false := by cases hb : fn.body <;> simp_all
        simp only [callFunc, Sem.run_bind, run_program, Result.andThen, hfn, hnm, hb, Bool.false_eq_true, if_false, Sem.run_pure] at hrun
        cases hrun
  obtain ⟨hname, hc⟩ := hc
  refine ⟨l, mk, w1, { target := .fn (.func f) cap', args := first' ++ #[Value.func (.yield l) #[] #[]] }, w1, f, first' ++ #[Value.func (.yield l) #[] #[]] ++ cap', w1, he, ?_, fun _ _ => trivial, ?_, fun h => (by cases h), ?_⟩
  · have hc2 : a.eval (.const (.func (.yield l) #[] #[])) = .func (.yield l) #[] #[] := rfl
    simp [resolve, rangeCall, eg, Deferred.ofValue, hc2]
  · have hb : fn.body.isNone = false := by cases hb : fn.body <;> simp_all
    simp only [invoke, callFunc, Sem.run_bind, run_program, Result.andThen, hfn, hname, hb, Bool.false_eq_true, if_false, Sem.run_pure]
  · refine CallsIn.mono (Fz_calls hc) ?_
    rintro e w3 ⟨v', rfl, E2, v0, H2, hk, hle, hv, hR2, hF2⟩
    have hdy : (st.H.push (.loop .ready none st.tmps ps asg body)).dom st.H.next := push_dom hr
    have ey : (E2 st.H.next).blk = l := by rw [hF2.ext _ hdy, upd_same]
    unfold RFPost at hk
    split at hk
    · rename_i s1 pd tm2 ps2 asg2 body2 hy2
      obtain ⟨hs, hk⟩ := hk
      obtain ⟨tm2', f2, d2, q1, q2, q3, q4⟩ := hR2.obj _ _ hy2
      have q1' := q1
      rw [ey] at q1'
      refine ⟨pd, _, run_endLoop q1' hs, ?_⟩
      have hz := hR2.write (w' := w3.putObj l (.loop { state := .exhausted, pending := pd, fn := f2, tmps := tm2', params := ps2, assign := asg2, body := body2, defers := d2 })) ⟨_, hy2, rfl⟩ .dead put_loop_size (fun b hb => put_loop_ne (by rw [← ey]; exact hb)) trivial (fun _ _ => ⟨_, by rw [ey]; exact put_loop_eq q1'⟩) ⟨rfl, rfl, rfl⟩
      have hle0 : st.H.dom.le (H2.set st.H.next .dead).dom := by rw [dom_set]; exact Dom.le_trans (dom_push hr) hle
      have hFall : Fr st.H.dom E st.H w E2 (H2.set st.H.next .dead) (w3.putObj l (.loop { state := .exhausted, pending := pd, fn := f2, tmps := tm2', params := ps2, assign := asg2, body := body2, defers := d2 })) :=
        hF1.trans ((hF2.less (dom_push hr)).trans (hz.2.less (Dom.le_trans (dom_push hr) hle)))
      have key : ∀ e, K e ⟨st.tmps, H2.set st.H.next .dead⟩ → AP T.ng N E st.H w a.defers K e { a with defers := mk ++ a.defers } (w3.putObj l (.loop { state := .exhausted, pending := pd, fn := f2, tmps := tm2', params := ps2, assign := asg2, body := body2, defers := d2 })) := by
        intro e hke
        refine ⟨rs, E2, ⟨st.tmps, H2.set st.H.next .dead⟩, by simp [hmk], (hm1.step hF2).step hz.2, hke, Dom.le_trans hN hle0, ?_, hz.1, hFall.less hN⟩
        have := ht.mono (E' := E2) hle0 (fun i hi => by rw [hF2.ext i (dom_push hr i hi), upd_dom hr _ _ _ hi])
        exact this
      cases pd with
      | none => exact key _ hk
      | some j =>
        cases j <;> simp only at hk <;> first
          | exact hk.elim
          | exact wpIn_ret (key _ hk)
          | exact wpIn_exit (key _ hk)
    · exact hk.elim

theorem least {p : Nat → Prop} (h : ∃ n, p n) : ∃ n, p n ∧ ∀ m, p m → n ≤ m := by
  obtain ⟨n, hn⟩ := h
  induction n using Nat.strongRecOn with
  | _ n ih =>
    by_cases hm : ∃ m, p m ∧ m < n
    · obtain ⟨m, h1, h2⟩ := hm
      exact ih m h2 h1
    · exact ⟨n, hn, fun m h1 => Nat.le_of_not_lt fun h2 => hm ⟨m, h1, h2⟩⟩

/-- A loop. -/
theorem AW.loop {N : Dom} {c : Code} {K : Exit → St → Prop} (I : St → Prop) (μ : St → Nat) (st : St) (h0 : I st)
    (hr : ∀ st, I st → AW P T.ng N c st fun e st' => match e with | .normal => I st' ∧ μ st' < μ st | e => K e st') : AW P T.ng N (.loop c) st K := by
  refine ⟨fun ro hN E w a hro ht hR => ?_⟩
  let p : Act → World → Nat → Prop := fun a1 w1 n => ∃ rs E1 st1, I st1 ∧ μ st1 = n ∧ a1.defers = rs.map mark ++ a.defers ∧ Mks E1 st1.H w1 w.heap.size rs ∧ N.le st1.H.dom ∧ TR E1 st1.H.dom st1.tmps a1.tmps ∧ R T.ng E1 st1.H w1 ∧ Fr N E st.H w E1 st1.H w1
  let m : Act → World → Nat := fun a1 w1 => @dite _ (∃ n, p a1 w1 n) (Classical.propDecidable _) (fun h => Classical.choose (least h)) (fun _ => 0)
  have hm : ∀ a1 w1, (∃ n, p a1 w1 n) → p a1 w1 (m a1 w1) ∧ ∀ k, p a1 w1 k → m a1 w1 ≤ k := by
    intro a1 w1 h
    have : m a1 w1 = Classical.choose (least h) := by simp only [m]; rw [dif_pos h]
    rw [this]
    exact Classical.choose_spec (least h)
  refine wpIn_loop (fun a1 w1 => ∃ n, p a1 w1 n) m ⟨_, [], E, st, h0, rfl, rfl, .nil _ _ _ _, hN, ht, hR, .refl _ _ _ _⟩ ?_
  intro a1 w1 hp
  obtain ⟨⟨rs, E1, st1, hI, hμ, hd1, hm1, hN1, ht1, hR1, hF1⟩, _⟩ := hm a1 w1 hp
  refine wpIn_mono ((hr st1 hI).run ro hN1 E1 w1 a1 (hro.step hF1) ht1 hR1) ?_
  intro e a2 w2 hq
  obtain ⟨rs2, E2, st2, hd2, hm2, hk, hN2, ht2, hR2, hF2⟩ := hq.join hd1 hm1 hF1
  cases e with
  | normal =>
    have hp2 : p a2 w2 (μ st2) := ⟨rs2, E2, st2, hk.1, rfl, hd2, hm2, hN2, ht2, hR2, hF2⟩
    have := (hm a2 w2 ⟨_, hp2⟩).2 _ hp2
    exact ⟨⟨_, hp2⟩, by omega⟩
  | _ => exact ⟨rs2, E2, st2, hd2, hm2, hk, hN2, ht2, hR2, hF2⟩

theorem ACalls.mono {f : FuncId} {args : List Value} {H : AHeap} {Q Q' : Value → AHeap → Prop} (h : ACalls P T.ng f args H Q) (hq : ∀ v H', Q v H' → Q' v H') : ACalls P T.ng f args H Q' := by
  refine ⟨fun E w args' hR hpl => ?_⟩
  rcases h.run E w args' hR hpl with ⟨hfn, hc⟩ | ⟨v, w', hr, E1, v0, H1, hk, r⟩
  · refine .inl ⟨hfn, Calls.mono hc ?_⟩
    rintro e w' ⟨v, rfl, E1, v0, H1, hk, r⟩
    exact ⟨v, rfl, E1, v0, H1, hq _ _ hk, r⟩
  · exact .inr ⟨v, w', hr, E1, v0, H1, hq _ _ hk, r⟩
end
def tiOK (P : Program) (t : Nat) (i : TI) : Prop := ((∃ d, P.underlying t = some d ∧ strip d = i.desc) ∧ ∃ info, P.info? t = some info ∧ info.size = i.size ∧ info.bytes = i.bytes ∧ info.zero = some i.zero) ∧ (i.zero.cells.toList.all flat = true ∧ i.zero.cells.size = i.size) ∧ (i.eqs = true → eqFine P t = true)
theorem tiOK_mk {P : Program} {t : Nat} {i : TI} (h1 : (P.underlying t).map strip = some i.desc) (h2 : (P.info? t).map (fun j => (j.size, j.bytes, j.zero)) = some (i.size, i.bytes, some i.zero)) (h3 : i.zero.cells.toList.all flat = true) (h4 : i.zero.cells.size = i.size) (h5 : (!i.eqs || eqFine P t) = true) : tiOK P t i := by
  refine ⟨⟨?_, ?_⟩, ⟨h3, h4⟩, fun h => by rw [h] at h5; simpa using h5⟩
  · cases hd : P.underlying t with
    | none => rw [hd] at h1; cases h1
    | some d => rw [hd] at h1; exact ⟨d, rfl, by simpa using h1⟩
  · cases hi : P.info? t with
    | none => rw [hi] at h2; cases h2
    | some j =>
      rw [hi] at h2
      simp only [Option.map_some, Option.some.injEq, Prod.mk.injEq] at h2
      exact ⟨j, rfl, h2.1, h2.2.1, h2.2.2⟩
theorem okI {P : Program} {t : Nat} {c : Prop} [Decidable c] {a b : Option TI} (h1 : ∀ i, a = some i → tiOK P t i) (h2 : ∀ i, b = some i → tiOK P t i) : ∀ i, (if c then a else b) = some i → tiOK P t i := by
  intro i h
  split at h
  · exact h1 i h
  · exact h2 i h
theorem okL {P : Program} {t a : Nat} {x : TI} (h1 : tiOK P a x) : ∀ i, (if t = a then some x else none) = some i → tiOK P t i := by
  intro i h
  split at h
  · rename_i e; cases h; rw [e]; exact h1
  · cases h
end Go.Ab
