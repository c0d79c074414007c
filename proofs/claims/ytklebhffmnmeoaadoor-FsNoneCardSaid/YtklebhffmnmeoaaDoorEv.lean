/- The engine, part 22: from a contract on a small world to a law's row. -/
import Derived.Test.YtklebhffmnmeoaaDoorEu
import Derived.ChangeSame
import Derived.ChangeVars
import Derived.JoinedOf
import Derived.RowKit
import Derived.RowKitTokens
import Derived.LaidLaws
import Derived.LaidHandle
import Derived.Carry
import Derived.ProofKit
import Derived.SevenTiedAt
namespace Go.Ab
open Go Go.ChangeShapes Go.WideShapes Go.RowKit

theorem keptBut_of {W W' : World} (hE : Env W W') (hk : ∀ b, b < W.heap.size → W'.heap[b]? = W.heap[b]?) (may : MemPlace → Prop) : W.keptBut W' may := by
  refine ⟨hE.1, hE.2.2, fun i hi => ?_⟩
  rw [hk i hi]
  cases h : W.heap[i]? with
  | none => rfl
  | some o => cases o <;> first | rfl | exact ⟨rfl, rfl, rfl, fun _ _ => rfl⟩ | exact .inr ⟨rfl, rfl⟩

theorem below_of {W W' : World} (hE : Env W W') (hs : W.heap.size ≤ W'.heap.size) (hk : ∀ b, b < W.heap.size → W'.heap[b]? = W.heap[b]?) : Below W.heap.size W W' :=
  ⟨hE.1, hE.2.1, hE.2.2, hs, hk⟩

section
variable {H : Type} {enc : TypeId × Value → H} {P : Program}

theorem trodAll_stays (hl : laidOutB P = true) {W W' : World} (hb : Below W.heap.size W W') : ∀ (ts : List TypeId) (vs : List Value) (ds : List (DataW H)) (ps : List MemPlace), (∀ t ∈ ts, P.readableRec t = true ∧ t < P.types.size) →
    DataW.TrodAll enc P W 0 (fun _ => true) true ts vs ds ps → (∀ x ∈ ps, x.block < W.heap.size) → DataW.TrodAll enc P W' 0 (fun b => decide (b < W.heap.size)) true ts vs ds ps
  | [], [], [], ps, _, h, _ => h
  | t :: ts, v :: vs, d :: ds, ps, ht, ⟨p, q, h1, h2, e⟩, hlt => by
    subst e
    refine ⟨p, q, Below.trod hl (ht t (by simp)).1 (ht t (by simp)).2 h1 hb (fun x hx => hlt x (by simp [hx])), trodAll_stays hl hb ts vs ds q (fun t h => ht t (by simp [h])) h2 (fun x hx => hlt x (by simp [hx])), rfl⟩
  | [], _ :: _, _, _, _, h, _ => h.elim
  | [], [], _ :: _, _, _, h, _ => h.elim
  | _ :: _, [], _, _, _, h, _ => h.elim
  | _ :: _, _ :: _, [], _, _, h, _ => h.elim

/-- What a law's row asks behind the call. -/
theorem post_law {s : ChangeSpec} {f : Func} {apart : Bool} {W W' : World} {args : Array Value} {ds : List (DataW H)} {before : List MemPlace} (hv : s.vars = []) (hW : DataW.Whole enc P f.params.toList s.vars apart W args.toList ds [] before)
    (hs : s.fn H (ds ++ []) = { results := [.lit (.bool true)], args := ds }) {tb : TypeId} (hr : f.resultTypes = #[tb]) (hb : P.underlying tb = some .bool) (hread : ∀ t ∈ f.params.toList, P.readableRec t = true ∧ t < P.types.size) (hl : laidOutB P = true)
    (hE : Env W W') (hsz : W.heap.size ≤ W'.heap.size) (hk : ∀ b, b < W.heap.size → W'.heap[b]? = W.heap[b]?) : s.post enc P f apart true false false W args (.bool true) W' := by
  have hlt := hW.lt
  have hW' := hW
  obtain ⟨p, q, hA, hV, rfl, hfz, hnd⟩ := hW'
  rw [hv] at hV
  have hq : q = [] := hV
  subst hq
  refine ⟨ds, [], _, [], p, [], hW, ?_, ?_, ?_, keptBut_of hE hk _, fun h => by cases h⟩
  · rw [hs, hr]
    exact trodAll_mk1 (shut_bool hb true)
  · rw [hs]
    exact trodAll_stays hl (below_of hE hsz hk) _ _ _ _ hread hA (fun x hx => hlt x (by simp [hx]))
  · rw [hs, hv]
    rfl
end

/-- A contract on a small world that owns nothing, in the real one. -/
theorem ACalls.law {P : Program} {ng : Nat} {f : FuncId} {args : List Value} {H : AHeap} {Q : Value → AHeap → Prop} (h : ACalls P ng f args H Q) {fn : Func} (hf : P.funcs[f]? = some fn) (hb : fn.body.isSome = true) {E : Emb} {W : World} (hR : R ng E H W) (hro : ∀ i, ¬ isRw H i)
    {args' : Array Value} (hpl : PL E H.dom args args'.toList) : Calls P f args' W fun e W' => ∃ v' E' v H', e = .returned v' ∧ Q v H' ∧ VR E' H'.dom v v' ∧ Env W W' ∧ W.heap.size ≤ W'.heap.size ∧ ∀ b, b < W.heap.size → W'.heap[b]? = W.heap[b]? := by
  rcases h.run E W args' hR hpl with ⟨_, hc⟩ | ⟨v, w', hrun, _⟩
  · refine Calls.mono hc ?_
    rintro e W' ⟨v', rfl, E', v, H', hq, _, hv, _, hF⟩
    exact ⟨v', E', v, H', rfl, hq, hv, hF.env, hF.size, fun b hb => hF.keep b hb fun i hi => absurd hi (hro i)⟩
  · exfalso
    cases hnm : (fn.name == "runtime.NumGoroutine") with
    | true =>
      have hnm' : fn.name = "runtime.NumGoroutine" := by simpa using hnm
      simp [callFunc, hf, hnm'] at hrun
    | false =>
      have hb' : fn.body.isNone = false := by cases hb' : fn.body <;> simp_all
      simp only [callFunc, Sem.run_bind, run_program, Result.andThen, hf, hnm, hb', Bool.false_eq_true, if_false, Sem.run_pure] at hrun
      cases hrun

/-! ### The cells of an argument -/
section
variable {P : Program} {w : World} {r : Reach} {base : Nat} {t : TypeId} {v : Value}
theorem okc_int {k : IntKind} (hu : P.underlying t = some (.int k)) (h : Cell.okWide P w r base t v) : ∃ n, v = .int k n ∧ k.has n := by
  unfold Cell.okWide Cell.ok at h
  rw [hu] at h
  cases v <;> simp at h
  obtain ⟨rfl, h⟩ := h
  exact ⟨_, rfl, h⟩
theorem okc_bool (hu : P.underlying t = some .bool) (h : Cell.okWide P w r base t v) : ∃ n, v = .bool n := by
  unfold Cell.okWide Cell.ok at h
  rw [hu] at h
  cases v <;> simp at h
  exact ⟨_, rfl⟩
theorem okc_string (hu : P.underlying t = some .string) (h : Cell.okWide P w r base t v) : ∃ n : ByteArray, v = .string n ∧ (n.size : Int) ≤ IntKind.i64.max := by
  unfold Cell.okWide Cell.ok at h
  rw [hu] at h
  cases v <;> simp at h
  exact ⟨_, rfl, h⟩
theorem okc_slice {e : TypeId} (hu : P.underlying t = some (.slice e)) (h : Cell.okWide P w r base t v) : v = .slice none 0 0 ∨ ∃ b o len cap, v = .slice (some ⟨b, o, none⟩) len cap ∧ len ≤ cap ∧ (cap : Int) ≤ IntKind.i64.max ∧ w.has P r base ⟨b, o, none⟩ e cap := by
  unfold Cell.okWide Cell.ok at h
  rw [hu] at h
  cases v <;> simp at h
  rename_i a len cap
  cases a with
  | none =>
    split at h <;> simp_all
  | some a =>
    obtain ⟨b, o, sp⟩ := a
    simp at h
    obtain ⟨h1, h2, h3⟩ := h
    have h4 : sp = none := h3.2.1
    subst h4
    exact .inr ⟨b, o, len, cap, rfl, h1, h2, h3⟩
/-- An aggregate's cells, one by one. -/
theorem okv_agg {ts : List TypeId} (hu : (match P.underlying t with | some (.struct _) | some (.array _ _) => true | _ => false) = true) (hc : P.cellTypes P.depth t = some ts) (hn : P.cellsOf t = ts.length) (h : Value.okWide P w r base t v) :
    ∃ cs : Array Value, v = .agg cs ∧ cs.size = ts.length ∧ ∀ (i : Nat) (u : TypeId), ts[i]? = some u → ∃ x, cs[i]? = some x ∧ Cell.okWide P w r base u x := by
  have key : ∃ cs, v = .agg cs ∧ cs.size = P.cellsOf t ∧ Row.okWide P w r base t cs := by
    unfold Value.okWide at h
    split at hu <;> simp_all
  obtain ⟨cs, rfl, h1, ts', h2, _, h3⟩ := key
  rw [hc] at h2
  cases h2
  refine ⟨cs, rfl, by omega, fun i u hi => ?_⟩
  have hlt : i < ts.length := by
    rcases Nat.lt_or_ge i ts.length with hl | hl
    · exact hl
    · rw [List.getElem?_eq_none hl] at hi; cases hi
  have hx : cs[i]? = some cs[i] := Array.getElem?_eq_getElem (by omega)
  obtain ⟨u', h4, h5⟩ := h3 i _ hx
  rw [Nat.mod_eq_of_lt hlt, hi] at h4
  cases h4
  exact ⟨_, hx, h5⟩
end
end Go.Ab
