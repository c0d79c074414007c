/- The engine, part 10: all operations that compute, read, write, make. -/
import Derived.Test.YtklebhffmnmeoaaDoorEt
namespace Go.Ab
open Go

def Does (P : Program) (ng : Nat) (E : Emb) (H : AHeap) (w : World) (s : Sem Next) (r : Option Value × AHeap) : Prop :=
  ∃ E1 w1 nx, s.run P w = .ok nx w1 ∧ (match r.1 with | some v => ∃ v', nx = .value v' ∧ VR E1 r.2.dom v v' | none => nx = .skip) ∧ R ng E1 r.2 w1 ∧ Fr H.dom E H w E1 r.2 w1 ∧ H.dom.le r.2.dom

section
variable {P : Program} {T : Tab} {E : Emb} {H : AHeap} {w : World}

theorem DoesV.does {s : Sem Value} {v : Value} {H1 : AHeap} (h : DoesV P T.ng E H w s v H1) : Does P T.ng E H w (do pure (.value (← s))) (some v, H1) := by
  obtain ⟨E1, w1, v', h1, h2, h3, h4, h5⟩ := h
  exact ⟨E1, w1, .value v', by simp only [Sem.run_bind, h1, Result.andThen, Sem.run_pure], ⟨v', rfl, h2⟩, h3, h4, h5⟩
theorem DoesU.does {s : Sem Unit} {H1 : AHeap} (h : DoesU P T.ng E H w s H1) : Does P T.ng E H w (do s; pure .skip) (none, H1) := by
  obtain ⟨E1, w1, h1, h3, h4, h5⟩ := h
  exact ⟨E1, w1, .skip, by simp only [Sem.run_bind, h1, Result.andThen, Sem.run_pure], rfl, h3, h4, h5⟩
theorem does_here (hR : R T.ng E H w) {v v' : Value} (hv : VR E H.dom v v') : Does P T.ng E H w (pure (.value v')) (some v, H) :=
  ⟨E, w, .value v', rfl, ⟨v', rfl, hv⟩, hR, .refl _ _ _ _, Dom.le_refl _⟩

theorem PP.of_map {n : Dom} {ρ ρ' : Operand → Value} (hρ : ∀ x, VR E n (ρ x) (ρ' x)) (ps : Array (Nat × Operand)) :
    PP E n (ps.toList.map fun x => (x.1, ρ x.2)) (ps.map fun x => (x.1, ρ' x.2)).toList := by
  refine ⟨by simp, fun j x hx => ?_⟩
  simp only [List.getElem?_map, Option.map_eq_some_iff] at hx
  obtain ⟨y, hy, rfl⟩ := hx
  exact ⟨(y.1, ρ' y.2), by simp [List.getElem?_map] at hy ⊢; exact ⟨y.1, y.2, by simpa using hy, rfl, rfl⟩, rfl, hρ _⟩

theorem PA.of_map {n : Dom} {ρ ρ' : Operand → Value} (hρ : ∀ x, VR E n (ρ x) (ρ' x)) (a : Array Operand) : PA E n (a.map ρ) (a.map ρ') := by
  refine ⟨by simp, fun i hi => ?_⟩
  simp only [Array.size_map] at hi
  simp only [Array.getD_eq_getD_getElem?, Array.getElem?_map, Array.getElem?_eq_getElem hi, Option.map_some, Option.getD_some]
  exact hρ _

theorem VO.of_map {n : Dom} {ρ ρ' : Operand → Value} (hρ : ∀ x, VR E n (ρ x) (ρ' x)) (a : Option Operand) : VO E n (a.map ρ) (a.map ρ') := by
  cases a with
  | none => exact .inl ⟨rfl, rfl⟩
  | some x => exact .inr ⟨_, _, rfl, rfl, hρ x⟩

theorem aval?_some {v : Option Value} {r : Option Value × AHeap} (h : aval? H v = some r) : ∃ u, v = some u ∧ r = (some u, H) := by
  unfold aval? at h
  split at h
  · cases h; exact ⟨_, rfl, rfl⟩
  · cases h

theorem amin_sound (hR : R T.ng E H w) {ts : Array TypeId} {ty : TypeId} {ρ ρ' : Operand → Value} (hρ : ∀ x, VR E H.dom (ρ x) (ρ' x)) {xs : Array Operand} {v : Value} (h : amin Prim.real (xs.toList.map ρ) = some v) :
    DoesV P T.ng E H w (Builtin.min_ ts ty (xs.map ρ')) v H := by
  obtain ⟨l⟩ := xs
  simp only at h
  unfold amin at h
  split at h
  · rename_i k x k' y he
    cases h
    rcases l with _ | ⟨a, _ | ⟨b, _ | ⟨c, l⟩⟩⟩ <;> simp at he
    · have e1 := (he.1 ▸ hρ a).int; have e2 := (he.2 ▸ hρ b).int
      exact .here hR (v' := .int k (if y < x then y else x)) (by simp [Builtin.min_, e1, e2, Builtin.min2]) (.same rfl)
  · rename_i k x he
    cases h
    rcases l with _ | ⟨a, _ | ⟨b, l⟩⟩ <;> simp at he
    · have e1 := (he ▸ hρ a).int
      exact .here hR (v' := .int k x) (by simp [Builtin.min_, e1]) (.same rfl)
  · cases h

theorem amax_sound (hR : R T.ng E H w) {ts : Array TypeId} {ty : TypeId} {ρ ρ' : Operand → Value} (hρ : ∀ x, VR E H.dom (ρ x) (ρ' x)) {xs : Array Operand} {v : Value} (h : amax Prim.real (xs.toList.map ρ) = some v) :
    DoesV P T.ng E H w (Builtin.max_ ts ty (xs.map ρ')) v H := by
  obtain ⟨l⟩ := xs
  simp only at h
  unfold amax at h
  split at h
  · rename_i k x k' y he
    cases h
    rcases l with _ | ⟨a, _ | ⟨b, _ | ⟨c, l⟩⟩⟩ <;> simp at he
    · have e1 := (he.1 ▸ hρ a).int; have e2 := (he.2 ▸ hρ b).int
      exact .here hR (v' := .int k (if y > x then y else x)) (by simp [Builtin.max_, e1, e2, Builtin.max2]) (.same rfl)
  · rename_i k x he
    cases h
    rcases l with _ | ⟨a, _ | ⟨b, l⟩⟩ <;> simp at he
    · have e1 := (he ▸ hρ a).int
      exact .here hR (v' := .int k x) (by simp [Builtin.max_, e1]) (.same rfl)
  · cases h

theorem abi_sound (hT : TabOK P T) (hR : R T.ng E H w) {b : Builtin} {ty : TypeId} {cs : Array Bool} {ts : Array TypeId} {ρ ρ' : Operand → Value} (hρ : ∀ x, VR E H.dom (ρ x) (ρ' x)) {xs : Array Operand} {r : Option Value × AHeap}
    (h : abi T H b (xs.toList.map ρ) ts.toList = some r) : Does P T.ng E H w (builtin b ts ty cs (xs.map ρ')) r := by
  unfold abi at h
  split at h
  · split at h
    · rename_i x hx
      split at h
      · rename_i t ht
        obtain ⟨l⟩ := xs
        obtain ⟨lt⟩ := ts
        simp only at hx ht
        subst ht
        rcases l with _ | ⟨a, _ | ⟨c, l⟩⟩ <;> simp at hx
        obtain ⟨u, hu, rfl⟩ := aval?_some h
        rw [show (Array.mk [a]).map ρ' = #[ρ' a] by simp]
        exact (alen_sound (ty := ty) hT hR (hx ▸ hρ a) hu).does
      · cases h
    · cases h
  · split at h
    · rename_i x hx
      split at h
      · rename_i t ht
        obtain ⟨l⟩ := xs
        obtain ⟨lt⟩ := ts
        simp only at hx ht
        subst ht
        rcases l with _ | ⟨a, _ | ⟨c, l⟩⟩ <;> simp at hx
        obtain ⟨u, hu, rfl⟩ := aval?_some h
        rw [show (Array.mk [a]).map ρ' = #[ρ' a] by simp]
        exact (acap_sound (ty := ty) hT hR (hx ▸ hρ a) hu).does
      · cases h
    · cases h
  · obtain ⟨u, hu, rfl⟩ := aval?_some h
    exact (amin_sound (P := P) (ts := ts) (ty := ty) hR hρ (hT.prim ▸ hu)).does
  · obtain ⟨u, hu, rfl⟩ := aval?_some h
    exact (amax_sound (P := P) (ts := ts) (ty := ty) hR hρ (hT.prim ▸ hu)).does
  · split at h
    · rename_i m k hx
      obtain ⟨ov, H1⟩ := r
      obtain ⟨v, rfl⟩ := aappend_some h
      obtain ⟨l⟩ := xs
      simp only at hx
      rcases l with _ | ⟨a, _ | ⟨c, _ | ⟨d, l⟩⟩⟩ <;> simp at hx
      rw [show (Array.mk [a, c]).map ρ' = #[ρ' a, ρ' c] by simp]
      exact (aappend_sound (ty := ty) hT hR (hx.1 ▸ hρ a) (hx.2 ▸ hρ c) h).does
    · cases h
  · split at h
    · rename_i m k hx
      obtain ⟨ov, H1⟩ := r
      obtain ⟨v, rfl⟩ := acopy_some h
      obtain ⟨l⟩ := xs
      simp only at hx
      rcases l with _ | ⟨a, _ | ⟨c, _ | ⟨d, l⟩⟩⟩ <;> simp at hx
      rw [show (Array.mk [a, c]).map ρ' = #[ρ' a, ρ' c] by simp]
      exact (acopy_sound (ty := ty) hT hR (hx.1 ▸ hρ a) (hx.2 ▸ hρ c) h).does
    · cases h
  · split at h
    · rename_i m k hx
      split at h
      · rename_i t tl ht
        split at h
        · rename_i H1 hs
          cases h
          obtain ⟨l⟩ := xs
          obtain ⟨lt⟩ := ts
          simp only at hx ht
          subst ht
          rcases l with _ | ⟨a, _ | ⟨c, _ | ⟨d, l⟩⟩⟩ <;> simp at hx
          rw [show (Array.mk [a, c]).map ρ' = #[ρ' a, ρ' c] by simp]
          exact (amapDelete_sound (ty := ty) hT hR (ts := (t :: tl).toArray) (by simp) (hx.1 ▸ hρ a) (hx.2 ▸ hρ c) hs).does
        · cases h
      · cases h
    · cases h
  · cases h

def nilSem (v' : Value) : Sem Next :=
  match v' with
    | .pointer none | .nilIface | .nilFunc => runtimePanic .nilDeref
    | .func (.method name) first captured =>
      match (first[0]? : Option Value) with
      | some .nilIface => runtimePanic .nilDeref
      | some (.iface t w) => do
        if (← nilAhead ((← program).types.size + Made.depth) t w name) != some false then
          unsupported (.noEntry "op/nilCheck.the method's receiver behind this interface value is a nil pointer, or cannot be seen to be none, and the arguments act or may panic (ledger 612)")
        pure (.value (.func (.method name) first captured))
      | _ => pure (.value (.func (.method name) first captured))
    | x => pure (.value x)

def nilFine : Value → Bool
  | .pointer (some _) | .slice .. | .map _ | .func (.func _) _ _ | .iface _ _ => true
  | _ => false

theorem nilCheck_self {v v' : Value} {n : Dom} (hv : VR E n v v') (h : nilFine v = true) (w : World) : (nilSem v').run P w = .ok (.value v') w := by
  cases hv with
  | top => cases h
  | same hf =>
    cases v <;> first
      | rfl
      | (cases h; done)
      | (cases hf; done)
      | (rename_i a; cases a <;> first | (cases h; done) | (cases hf; done))
  | _ => first | rfl | cases h

theorem aop_sound (hT : TabOK P T) (hR : R T.ng E H w) {ρ ρ' : Operand → Value} (hρ : ∀ x, VR E H.dom (ρ x) (ρ' x)) {o : Oper} {r : Option Value × AHeap} (h : aop T H ρ o.op = some r) :
    Does P T.ng E H w (execOp ρ' o) r := by
  unfold aop at h
  unfold execOp
  split at h <;> rename_i hop
  all_goals first
    | (cases h; done)
    | skip
  all_goals (rw [hop]; simp only [])
  case h_1 => cases h; exact does_here hR (hρ _)
  case h_2 => cases h; exact does_here hR (hρ _)
  case h_3 x a b =>
    split at h
    · rename_i t hc
      cases h
      have e := (hc ▸ hρ x).bool
      simp only [e, asBool]
      cases t
      · exact ⟨E, w, .value (ρ' b), by simp, ⟨_, rfl, hρ b⟩, hR, .refl _ _ _ _, Dom.le_refl _⟩
      · exact ⟨E, w, .value (ρ' a), by simp, ⟨_, rfl, hρ a⟩, hR, .refl _ _ _ _, Dom.le_refl _⟩
    · cases h
  case h_4 t =>
    split at h
    · rename_i i hi
      obtain ⟨ov, H1⟩ := r
      obtain ⟨hr0, hv0, hH1⟩ := anew_some h
      subst hv0 hH1
      exact (alloc_sound hr0 hT hR hi).does
    · cases h
  case h_5 t x =>
    split at h
    · split at h
      · rename_i hk
        obtain ⟨ov, H1⟩ := r
        obtain ⟨hr0, hv0, hH1⟩ := anew_some h
        subst hv0 hH1
        exact (box_sound hr0 hR (hρ x) hk).does
      · cases h
    · cases h
  case h_6 t ps =>
    obtain ⟨u, hu, rfl⟩ := aval?_some h
    exact (abuild_sound hT hR (PP.of_map hρ ps) hu).does
  case h_7 t n ps =>
    obtain ⟨ov, H1⟩ := r
    have : ∃ v, ov = some v := by
      unfold abuildSlice anew at h
      split at h <;> try cases h
      split at h <;> try cases h
      split at h <;> try cases h
      split at h <;> try cases h
      split at h <;> try cases h
      split at h <;> cases h
      exact ⟨_, rfl⟩
    obtain ⟨v, rfl⟩ := this
    exact (abuildSlice_sound hT hR (PP.of_map hρ ps) h).does
  case h_8 t a =>
    obtain ⟨u, hu, rfl⟩ := aval?_some h
    exact (aload_sound hT hR (hρ a) hu).does
  case h_9 t a x =>
    split at h
    · rename_i H1 hs
      cases h
      exact (astore_sound hT hR (hρ a) (hρ x) hs).does
    · cases h
  case h_10 x =>
    have hx := hρ x
    split at h <;> rename_i hv
    all_goals first
      | (cases h; done)
      | skip
    all_goals
      unfold aval at h
      cases h
      rw [hv] at hx
      exact ⟨E, w, .value (ρ' x), nilCheck_self hx rfl w, ⟨_, rfl, hx⟩, hR, .refl _ _ _ _, Dom.le_refl _⟩
  case h_11 op t x y yt =>
    obtain ⟨u, hu, rfl⟩ := aval?_some h
    exact (abin_sound hT hR (hρ x) (hρ y) hu).does
  case h_12 op t x =>
    obtain ⟨u, hu, rfl⟩ := aval?_some h
    exact (aun_sound hT hR (hρ x) hu).does
  case h_13 t x =>
    split at h
    · rename_i i hi
      split at h
      · cases h
      · rename_i hne
        split at h
        · rename_i hk
          cases h
          refine (DoesV.here hR (v' := .iface t (ρ' x)) ?_ (.iface (hρ x) (fun r e => by rw [e] at hk; cases hk))).does
          obtain ⟨⟨d, g1, g2⟩, _⟩ := hT.ty t i hi
          simp only [Instr.makeInterface, Sem.run_bind, run_underlying g1, Result.andThen]
          cases d <;> first | rfl | exact absurd g2.symm (hne _)
        · cases h
    · cases h
  case h_14 f a c =>
    cases h
    have h1 := PA.of_map hρ a
    have h2 := PA.of_map hρ c
    exact (DoesV.here hR (v' := .func (.func f) (a.map ρ') (c.map ρ')) rfl (.func h1.1 h1.2 h2.1 h2.2)).does
  case h_15 t l c =>
    obtain ⟨ov, H1⟩ := r
    obtain ⟨v, rfl⟩ := amakeSlice_some h
    exact (amakeSlice_sound hT hR (hρ l) (hρ c) h).does
  case h_16 src dst x =>
    obtain ⟨ov, H1⟩ := r
    obtain ⟨v, rfl⟩ := aconvert_some h
    exact (aconvert_sound hT hR (hρ x) h).does
  case h_17 t =>
    obtain ⟨ov, H1⟩ := r
    obtain ⟨hr0, hv0, hH1⟩ := anew_some h
    subst hv0 hH1
    exact (makeMap_sound hr0 hR).does
  case h_18 t x lo hi =>
    obtain ⟨u, hu, rfl⟩ := aval?_some h
    exact (aslice_sound hT hR (hρ x) (VO.of_map hρ lo) (VO.of_map hρ hi) hu).does
  case h_19 s x f =>
    split at h
    · rename_i b o' hx
      split at h
      · rename_i fd sz hf
        split at h
        · cases h
        · rename_i hz
          cases h
          exact (fieldAddr_sound hT hR (hx ▸ hρ x) hf hz).does
      · cases h
    · cases h
  case h_20 s x f =>
    split at h
    · rename_i cs hx
      split at h
      · rename_i fd sz hf
        obtain ⟨u, hu, rfl⟩ := aval?_some h
        exact (field_sound hT hR (hx ▸ hρ x) hf hu).does
      · cases h
    · cases h
  case h_21 t x ix =>
    obtain ⟨u, hu, rfl⟩ := aval?_some h
    exact (aindexAddr_sound hT hR (hρ x) (hρ ix) hu).does
  case h_22 t x ix =>
    obtain ⟨u, hu, rfl⟩ := aval?_some h
    exact (aindex_sound hT hR (hρ x) (hρ ix) hu).does
  case h_23 t m k ok =>
    obtain ⟨u, hu, rfl⟩ := aval?_some h
    exact (alookup_sound hT hR (hρ m) (hρ k) hu).does
  case h_24 t m k v =>
    split at h
    · rename_i H1 hs
      cases h
      exact (amapUpdate_sound hT hR (hρ m) (hρ k) (hρ v) hs).does
    · cases h
  case h_25 t x =>
    obtain ⟨ov, H1⟩ := r
    obtain ⟨v, rfl, h1⟩ := arange_sound (P := P) hT hR (hρ x) h
    exact h1.does
  case h_26 x b =>
    obtain ⟨ov, H1⟩ := r
    obtain ⟨v, rfl, h1⟩ := anext_sound (P := P) (ty := o.type) hT hR (hρ x) h
    exact h1.does
  case h_27 x =>
    obtain ⟨u, hu, rfl⟩ := aval?_some h
    exact (aentry_sound (P := P) hR (hρ x) hu).does
  case h_28 t i =>
    split at h
    · rename_i vs hv
      obtain ⟨u, hu, rfl⟩ := aval?_some h
      have hlt : i < vs.size := by
        rcases Nat.lt_or_ge i vs.size with hl | hl
        · exact hl
        · rw [Array.getElem?_eq_none hl] at hu; cases hu
      obtain ⟨vs', e, hpa⟩ := (hv ▸ hρ t).tuplep (by omega)
      have h2 := hpa.2 i hlt
      simp only [Array.getD_eq_getD_getElem?, hu, Option.getD_some, Array.getElem?_eq_getElem (show i < vs'.size by have := hpa.1; omega)] at h2
      refine (DoesV.here hR (v' := vs'[i]'(by have := hpa.1; omega)) ?_ h2).does
      simp only [e, Instr.extract, Array.getElem?_eq_getElem (show i < vs'.size by have := hpa.1; omega), Sem.run_pure]
    · cases h
  case h_29 c =>
    split at h
    · rename_i b hb
      simp only [resolve, hb]
      exact abi_sound (P := P) (ty := o.type) hT hR hρ h
    · cases h
end
end Go.Ab
