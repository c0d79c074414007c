/- FsNone holds: a file system that no call made refuses every call, for every input. No condition. -/
import Derived.Test.YtklebhffmnmeoaaDoorTab
import Derived.Test.YtklebhffmnmeoaaDoorFuns
import Derived.Test.YtklebhffmnmeoaaDoorEv
import Derived.Test.YtklebhffmnmeoaaDoorTie
import Derived.Test.YtklebhffmnmeoaaDoorCards
namespace Go.Proofs.YtklebhffmnmeoaaDoor
open Go Go.Ab Go.ChangeShapes Go.WideShapes Go.RowKit
set_option maxRecDepth 100000

theorem own : ownKnob Tryd.prog.godebug = none := by kernel_rfl
theorem laidOut : laidOutB Tryd.prog = true := by kernel_rfl

/-- The cells of a datum of numbers. -/
def flatD : List (DataW Unit) → List Value
  | [] => []
  | d :: r => (match d with | .lit (.int k n) => [.int k n] | .agg [.lit (.int k n), .lit (.int k' n')] => [.int k n, .int k' n'] | _ => []) ++ flatD r
def cellsD : DataW Unit → Array Value
  | .agg l => (flatD l).toArray
  | _ => #[]
/-- A world that lays the tables. -/
noncomputable def laidWorld (os : Os) : World :=
  let w0 := World.holding Tryd.prog os ⟨#[], #[], []⟩
  let lay (g : Nat) (d : DataW Unit) (h : Array Obj) : Array Obj := h.modify g fun
    | .cells _ t fz => .cells (cellsD d) t fz
    | o => o
  { w0 with heap := lay 2 Rows.laid_unicode_utf8_acceptRanges (lay 1 Rows.laid_unicode_utf8_first w0.heap) }

theorem laidWorld_met (os : Os) (args : Array Value) : laidMetH Tryd.prog Rows.fsNoneRow.laid ((laidWorld os).forCall (fun _ _ => 0) ⟨#[], args, []⟩).memory :=
  laidMetH_of_parts (laidMet_of_run' 8 (by kernel_rfl) (by kernel_rfl)) (by kernel_rfl)

namespace FsNone
theorem runA (a b : ByteArray) (d k kind keep : Int) : (cfun (tab Prim.real) funOf xOf 400 4 [.agg #[.int .i64 d, .string a, .string b, .slice none 0 0, .int .i64 k, .int .i64 kind, .int .i64 keep]] ⟨[.dead, .dead, .dead, .dead], []⟩).map (·.1) = some (.bool true) := by kernel_rfl
theorem runB (a b : ByteArray) (d k kind keep : Int) (n c : Nat) : (cfun (tab Prim.real) funOf xOf 400 4 [.agg #[.int .i64 d, .string a, .string b, .slice (some ⟨3, 0, none⟩) n c, .int .i64 k, .int .i64 kind, .int .i64 keep]] ⟨[.dead, .dead, .dead, .dead], []⟩).map (·.1) = some (.bool true) := by kernel_rfl

theorem cells32 : Tryd.prog.cellTypes Tryd.prog.depth 32 = some [3, 9, 9, 22, 3, 3, 3] := by kernel_rfl
theorem of32 : Tryd.prog.cellsOf 32 = 7 := by kernel_rfl

theorem walk {v : Value} {W : World} {base : Nat} (hv : Value.okWide Tryd.prog W .any base 32 v) :
    Calls Tryd.prog 4 #[v] W fun e W' => e = .returned (.bool true) ∧ Env W W' ∧ W.heap.size ≤ W'.heap.size ∧ ∀ b, b < W.heap.size → W'.heap[b]? = W.heap[b]? := by
  obtain ⟨cs, rfl, hcs, hc⟩ := okv_agg (by rw [Tryd.underlying32]) cells32 of32 hv
  obtain ⟨x0, e0, h0⟩ := hc 0 3 rfl
  obtain ⟨x1, e1, h1⟩ := hc 1 9 rfl
  obtain ⟨x2, e2, h2⟩ := hc 2 9 rfl
  obtain ⟨x3, e3, h3⟩ := hc 3 22 rfl
  obtain ⟨x4, e4, h4⟩ := hc 4 3 rfl
  obtain ⟨x5, e5, h5⟩ := hc 5 3 rfl
  obtain ⟨x6, e6, h6⟩ := hc 6 3 rfl
  obtain ⟨d, rfl, _⟩ := okc_int Tryd.underlying3 h0
  obtain ⟨a, rfl, _⟩ := okc_string Tryd.underlying9 h1
  obtain ⟨b, rfl, _⟩ := okc_string Tryd.underlying9 h2
  obtain ⟨k, rfl, _⟩ := okc_int Tryd.underlying3 h4
  obtain ⟨kind, rfl, _⟩ := okc_int Tryd.underlying3 h5
  obtain ⟨keep, rfl, _⟩ := okc_int Tryd.underlying3 h6
  have hcs' : cs = #[.int .i64 d, .string a, .string b, x3, .int .i64 k, .int .i64 kind, .int .i64 keep] := by
    apply Array.ext_getElem?
    intro i
    match i with
    | 0 => exact e0
    | 1 => exact e1
    | 2 => exact e2
    | 3 => exact e3
    | 4 => exact e4
    | 5 => exact e5
    | 6 => exact e6
    | i + 7 => rw [Array.getElem?_eq_none (by rw [hcs]; simp), Array.getElem?_eq_none (by simp)]
  subst hcs'
  have fin : ∀ (x : Value) (E : Emb), (∀ g, g < 3 → (E g).blk = g ∧ (E g).sh = 0) → VR E (⟨[.dead, .dead, .dead, .dead], []⟩ : AHeap).dom x x3 →
      (cfun (tab Prim.real) funOf xOf 400 4 [.agg #[.int .i64 d, .string a, .string b, x, .int .i64 k, .int .i64 kind, .int .i64 keep]] ⟨[.dead, .dead, .dead, .dead], []⟩).map (·.1) = some (.bool true) →
      Calls Tryd.prog 4 #[.agg #[.int .i64 d, .string a, .string b, x3, .int .i64 k, .int .i64 kind, .int .i64 keep]] W fun e W' => e = .returned (.bool true) ∧ Env W W' ∧ W.heap.size ≤ W'.heap.size ∧ ∀ b, b < W.heap.size → W'.heap[b]? = W.heap[b]? := by
    intro x E hE hx hrun
    obtain ⟨⟨v, H1⟩, hr1, hr2⟩ := Option.map_eq_some_iff.1 hrun
    have hc := ACalls.of_cfun (tab_ok _ rfl) (by kernel_rfl) funOf_ok xOf_ok hr1
    have hdead : ∀ (i : Nat) (o : AObj), (⟨[.dead, .dead, .dead, .dead], []⟩ : AHeap)[i]? = some o → o = .dead := by
      intro i o h
      by_cases hi : i < BG
      · rw [get_lit hi] at h
        match i, h with
        | 0, h => cases h; rfl
        | 1, h => cases h; rfl
        | 2, h => cases h; rfl
        | 3, h => cases h; rfl
        | i + 4, h => simp at h
      · rw [get_bg hi] at h; simp at h
    have hdom : ∀ g, g < 4 → (⟨[.dead, .dead, .dead, .dead], []⟩ : AHeap).dom g := by
      intro g hg
      refine ⟨.dead, ?_⟩
      match g, hg with
      | 0, _ => rfl
      | 1, _ => rfl
      | 2, _ => rfl
      | 3, _ => rfl
    have hR : R 3 E ⟨[.dead, .dead, .dead, .dead], []⟩ W :=
      ⟨hE, fun g hg => hdom g (by omega), fun i j _ ⟨o, ho, hr⟩ _ => (by rw [hdead i o ho] at hr; cases hr), fun i o ho => by rw [hdead i o ho]; trivial⟩
    refine (ACalls.law hc Tryd.func4 (by kernel_rfl) hR (fun i ⟨o, ho, hr⟩ => by rw [hdead i o ho] at hr; cases hr) (args' := #[.agg #[.int .i64 d, .string a, .string b, x3, .int .i64 k, .int .i64 kind, .int .i64 keep]]) ?_).mono ?_
    · refine ⟨rfl, fun j hj => ?_⟩
      have : j = 0 := by simp at hj; omega
      subst this
      refine .agg rfl fun i hi => ?_
      match i, hi with
      | 0, _ => exact .same rfl
      | 1, _ => exact .same rfl
      | 2, _ => exact .same rfl
      | 3, _ => exact hx
      | 4, _ => exact .same rfl
      | 5, _ => exact .same rfl
      | 6, _ => exact .same rfl
      | i + 7, hi => simp at hi; omega
    · rintro e W' ⟨v', E', v1, H', rfl, ⟨rfl, rfl⟩, hv, h1, h2, h3⟩
      simp only at hr2
      subst hr2
      rw [hv.bool]
      exact ⟨rfl, h1, h2, h3⟩
  rcases okc_slice Tryd.underlying22 h3 with rfl | ⟨bl, o, len, cap, rfl, hle, _, _⟩
  · exact fin (.slice none 0 0) (fun i => ⟨i, 0, 0, 0⟩) (fun g _ => ⟨rfl, rfl⟩) (.same rfl) (runA a b d k kind keep)
  · refine fin (.slice (some ⟨3, 0, none⟩) len cap) (fun i => if i = 3 then ⟨bl, o, 0, 0⟩ else ⟨i, 0, 0, 0⟩) (fun g hg => by simp [show g ≠ 3 by omega]) ?_ (runB a b d k kind keep len cap)
    have := VR.slice (E := fun i => if i = 3 then (⟨bl, o, 0, 0⟩ : Ent) else ⟨i, 0, 0, 0⟩) (n := (⟨[.dead, .dead, .dead, .dead], []⟩ : AHeap).dom) (b := 3) (o := 0) (len := len) (c := cap) (o' := o) (c' := cap) ⟨.dead, rfl⟩ hle (fun _ => rfl) (Nat.le_refl _) (fun h => absurd rfl h)
    exact this

theorem lifted (os : Os) (started : os.Started) (H : Type) (enc : TypeId × Value → H) :
    ReturnsInHanded {} Tryd.checked os 4 .any (fun w args => (Rows.fsNoneSpec.pre enc Tryd.prog Tryd.f4 [] false w args ∧ laidMetH Tryd.prog Rows.fsNoneRow.laid w) ∧ sizedMet enc Tryd.prog Tryd.f4 (OpenSpec.ofChange Rows.fsNoneSpec) false w args)
      (Rows.fsNoneSpec.post enc Tryd.prog Tryd.f4 false true false false) := by
  refine returnsInHanded_of_change_and (C := Tryd.checked) (X := fun w _ => laidMetH Tryd.prog Rows.fsNoneRow.laid w) (fun _ _ _ hh h => h.of_heap hh) own started (by kernel_rfl) Tryd.func4
    (ChangeSpec.witness_at (enc := enc) (C := Tryd.checked) (os := os) (X := fun w _ => laidMetH Tryd.prog Rows.fsNoneRow.laid w) false (laidWorld os) #[.agg #[.int .i64 0, .string ⟨#[]⟩, .string ⟨#[]⟩, .slice none 0 0, .int .i64 0, .int .i64 0, .int .i64 0]] 8 rfl (by kernel_rfl) (by kernel_rfl) (by kernel_rfl) (by kernel_rfl) (by kernel_rfl) (laidWorld_met os _)) ?_
  intro W base args ds gs before hval0 hW _ _ hL _
  have hval : ∀ (j : Nat) t v, Tryd.f4.params[j]? = some t → args[j]? = some v → Value.okWide Tryd.prog W .any base t v := hval0
  have hW' := hW
  obtain ⟨p, q, hA0, hV0, hpq, hfz, hnd⟩ := hW'
  have hA : DataW.TrodAll enc Tryd.prog W 0 (fun _ => true) true Tryd.f4.params.toList args.toList ds p := hA0
  rw [Tryd.params4] at hA
  obtain ⟨v0, d0, rfl, rfl, h0⟩ := trodAll_one hA
  have hgs : gs = [] := by
    cases gs with
    | nil => rfl
    | cons g r => exact absurd hV0 (by intro h; cases h)
  subst hgs
  refine (walk (hval 0 32 v0 (by rw [Tryd.params4]; rfl) rfl)).mono ?_
  rintro e W' ⟨rfl, h1, h2, h3⟩
  exact ⟨_, rfl, post_law rfl hW rfl (by kernel_rfl) Tryd.underlying4 (by rw [Tryd.params4]; intro t ht; simp at ht; subst ht; exact ⟨by kernel_rfl, of_decide_eq_true (by kernel_rfl)⟩) laidOut h1 h2 h3⟩

theorem row_holds : Rows.FsNoneSaid :=
  OpenClaim.holds_of_wide 4 Tryd.f4 rfl rfl rfl rfl rfl rfl rfl ⟨rfl, rfl, rfl, rfl, rfl⟩ rfl rfl rfl rfl rfl (by kernel_rfl) Tryd.func4 (by kernel_rfl)
    (of_decide_eq_true (by kernel_rfl)) (by unfold Func.isWrapper; rw [if_neg (of_decide_eq_false (by kernel_rfl))]; exact ⟨rfl, rfl⟩)
    (fun os started H enc _ => lifted os started H enc)

theorem card_holds : Rows.FsNoneCardSaid :=
  Claim7.holds_tied_plain_at .later [] [.data, .pinned] true (true, "c8504e23b8289fbc8224eae8146e34596d3452101a403cd84dd7ed5bdf7afa43") false
    row_holds (fun _ h => by cases h) (by kernel_rfl) (fun _ h => by cases h) fsNone_row_tie rfl ⟨rfl, rfl⟩ (by kernel_rfl) rfl
    (fun f fn hf hfn => by
      obtain rfl : f = 4 := Option.some.inj ((show Tryd.prog.funcNamed "lanyard/lanyardlaw02.FsNone" = some 4 by kernel_rfl).symm.trans hf) |>.symm
      obtain rfl : fn = Tryd.f4 := (Option.some.inj (Tryd.func4.symm.trans hfn)).symm
      exact ⟨by kernel_rfl, fun j t ht => by
        rw [Tryd.params4] at ht
        have h3 : t = 32 := by
          rcases j with _ | j
          · simpa using ht.symm
          · simp at ht
        subst h3
        exact (show Tryd.prog.wantsStandIn 32 = false by kernel_rfl)⟩)
    (by kernel_rfl)
end FsNone
end Go.Proofs.YtklebhffmnmeoaaDoor
