/- The engine, part 18: regions that draw their order. -/
import Derived.Test.YtklebhffmnmeoaaDoorEo
import Derived.OrdersIn
namespace Go.Ab
open Go

/-- Operations that only compute and read. -/
def pureOp : Op → Bool
  | .move _ | .assign _ | .pick .. | .load .. | .nilCheck _ | .binOp .. | .unOp .. | .makeInterface .. | .slice .. | .fieldAddr .. | .field .. | .indexAddr .. | .index .. | .lookup .. | .extract .. | .build .. => true
  | .call c => match c.callee with
    | .builtin .len | .builtin .min | .builtin .max => true
    | _ => false
  | _ => false

def dstOf (ops : Array Oper) (i : Nat) : Option Tmp := match ops[i]? with | some o => o.dst | none => none
def isPure (ops : Array Oper) (i : Nat) : Bool := match ops[i]? with | some o => pureOp o.op | none => false
def preds (ops : Array Oper) (j : Nat) : List Nat := match ops[j]? with | some o => (o.after.toList.filter fun e => Region.binds .any e).map (·.on) | none => []
def reach (ops : Array Oper) : Nat → Nat → Nat → Bool
  | 0, _, _ => false
  | n + 1, i, j => (preds ops j).any fun k => k == i || reach ops n i k
def looksOf (ops : Array Oper) (i : Nat) : List Tmp := match ops[i]? with | some o => o.looksAt ops | none => []

def firstReady (ops : Array Oper) (l : List Nat) (p : Bool) : List Nat → Option Nat
  | [] => none
  | i :: is => if !l.contains i && (preds ops i).all (fun k => l.contains k) && (isPure ops i == p) then some i else firstReady ops l p is
def order (ops : Array Oper) : Nat → List Nat → List Nat
  | 0, _ => []
  | n + 1, l => match firstReady ops l true (List.range ops.size) with
    | some i => i :: order ops n (i :: l)
    | none => match firstReady ops l false (List.range ops.size) with
      | some i => i :: order ops n (i :: l)
      | none => []

def sufB (ops : Array Oper) : List Nat → Bool
  | [] => true
  | c :: r => !r.contains c && (preds ops c).all (fun k => !(c :: r).contains k) && (isPure ops c || r.all fun i => reach ops ops.size c i) && sufB ops r
def drawOK (ops : Array Oper) (len : Nat) (ord : List Nat) : Bool :=
  (List.range ops.size).all (fun i => ord.contains i) && ord.all (fun i => decide (i < ops.size)) && sufB ops ord &&
  (List.range ops.size).all (fun i => match dstOf ops i with | some t => decide (t < len) && (List.range ops.size).all (fun j => i == j || dstOf ops j != some t) | none => true) &&
  (List.range ops.size).all (fun i => (looksOf ops i).all fun t => (List.range ops.size).all fun j => i == j || dstOf ops j != some t || reach ops ops.size j i || reach ops ops.size i j)

def pendOK (T : Tab) (ops : Array Oper) (H : AHeap) (j : Nat) : List (Nat × List Value × Value) → Prop
  | [] => True
  | (i, tm, v) :: r => (match reach ops ops.size i j with
    | true => True
    | false => match ops[i]? with
      | some o => aop T H (aeval T.ng tm) o.op = some (some v, H)
      | none => True) ∧ pendOK T ops H j r

def adraw (P : Program) (T : Tab) (ops : Array Oper) : List Nat → St → List (Nat × List Value × Value) → (St → Prop) → Prop
  | [], st, _, K => K st
  | i :: is, st, pend, K => match ops[i]? with
    | none => False
    | some o => match awanted ops st.tmps o with
      | none => False
      | some t => match pureOp o.op with
        | true => match t with
          | true => match aop T st.H (aeval T.ng st.tmps) o.op with
            | some (v, _) => match v with
              | some v => adraw P T ops is ⟨aput st.tmps o.dst v, st.H⟩ ((i, st.tmps, v) :: pend) K
              | none => False
            | none => False
          | false => adraw P T ops is ⟨aput st.tmps o.dst undef, st.H⟩ pend K
        | false => match t with
          | true => aone P T o st fun v H1 => pendOK T ops H1 i pend ∧ adraw P T ops is ⟨aput st.tmps o.dst v, H1⟩ pend K
          | false => adraw P T ops is ⟨aput st.tmps o.dst undef, st.H⟩ pend K

section
variable {P : Program} {T : Tab}

theorem aval?_heap {H : AHeap} {x : Option Value} {v : Option Value} {H1 : AHeap} (h : aval? H x = some (v, H1)) : H1 = H := by
  unfold aval? at h
  split at h <;> cases h
  rfl

theorem pure_heap {H : AHeap} {ρ : Operand → Value} {op : Op} (hp : pureOp op = true) {v : Option Value} {H1 : AHeap} (h : aop T H ρ op = some (v, H1)) : H1 = H := by
  cases op <;> simp only [pureOp, Bool.false_eq_true] at hp
  case slice t x lo hi mx =>
    cases mx <;> simp only [aop] at h
    · exact aval?_heap h
    · cases h
  all_goals simp only [aop] at h
  case call c =>
    cases hc : c.callee with
    | builtin b =>
      rw [hc] at h hp
      cases b <;> simp at hp <;> simp only [abi] at h
      all_goals first
        | exact aval?_heap h
        | (split at h <;> first | (split at h <;> first | exact aval?_heap h | cases h) | cases h)
    | _ => rw [hc] at hp; cases hp
  all_goals first
    | exact aval?_heap h
    | (cases h; rfl)
    | (repeat' split at h) <;> first | exact aval?_heap h | (cases h; done) | (cases h; rfl)

theorem map_congr' {ρ ρ' : Operand → Value} {l : List Operand} (h : ∀ x ∈ l, ρ x = ρ' x) : l.map ρ = l.map ρ' := List.map_congr_left h

/-- An operation hangs on its operands alone. -/
theorem aop_congr {H : AHeap} {ρ ρ' : Operand → Value} {op : Op} (h : ∀ x ∈ op.operands.toList, ρ x = ρ' x) : aop T H ρ op = aop T H ρ' op := by
  cases op <;> simp only [Op.operands] at h
  case slice t x lo hi mx =>
    have hx : ρ x = ρ' x := h x (by simp)
    have hlo : lo.map ρ = lo.map ρ' := by cases lo <;> simp; exact h _ (by simp)
    have hhi : hi.map ρ = hi.map ρ' := by cases hi <;> simp; exact h _ (by simp)
    cases mx <;> simp only [aop]
    rw [hx, hlo, hhi]
  case call c =>
    simp only [aop]
    cases hc : c.callee with
    | builtin b =>
      have : c.args.toList.map ρ = c.args.toList.map ρ' := List.map_congr_left fun x hx => h x (by simp [Call.operands, hc]; simpa using hx)
      simp only [this]
    | _ => rfl
  case build t ps =>
    have : (ps.toList.map fun x => (x.1, ρ x.2)) = ps.toList.map fun x => (x.1, ρ' x.2) := List.map_congr_left fun x hx => by
      rw [h x.2 (by simp only [List.mem_map]; exact ⟨x, hx, rfl⟩)]
    simp only [aop, this]
  case buildSlice t n ps =>
    have : (ps.toList.map fun x => (x.1, ρ x.2)) = ps.toList.map fun x => (x.1, ρ' x.2) := List.map_congr_left fun x hx => by
      rw [h x.2 (by simp only [List.mem_map]; exact ⟨x, hx, rfl⟩)]
    simp only [aop, this]
  case makeMap t r => cases r <;> simp only [aop]
  case makeFunc f a c =>
    cases f <;> simp only [aop]
    have h1 : a.map ρ = a.map ρ' := Array.map_congr_left fun x hx => h x (by simp; exact .inl hx)
    have h2 : c.map ρ = c.map ρ' := Array.map_congr_left fun x hx => h x (by simp; exact .inr hx)
    rw [h1, h2]
  all_goals simp only [aop]
  all_goals first
    | rfl
    | (simp at h; simp only [h]; done)

theorem aeval_congr {ng : Nat} {tm tm' : List Value} {x : Operand} (h : ∀ t, x = .tmp t → tm.getD t undef = tm'.getD t undef) : aeval ng tm x = aeval ng tm' x := by
  cases x with
  | tmp t => exact h t rfl
  | _ => rfl

theorem operand_looks {ops : Array Oper} {o : Oper} {t : Tmp} (h : Operand.tmp t ∈ o.op.operands.toList) : t ∈ o.looksAt ops := by
  unfold Oper.looksAt
  refine List.mem_append_left _ ?_
  rw [List.mem_filterMap]
  exact ⟨_, h, rfl⟩

theorem ops_congr {ops : Array Oper} {o : Oper} {ng : Nat} {tm tm' : List Value} (h : ∀ t ∈ o.looksAt ops, tm.getD t undef = tm'.getD t undef) : ∀ x ∈ o.op.operands.toList, aeval ng tm x = aeval ng tm' x := by
  intro x hx
  refine aeval_congr fun t ht => h t ?_
  subst ht
  exact operand_looks hx

theorem aone_congr {o : Oper} {st : St} {tm' : List Value} {k : Value → AHeap → Prop} (h : ∀ x ∈ o.op.operands.toList, aeval T.ng st.tmps x = aeval T.ng tm' x) (ha : aone P T o st k) : aone P T o ⟨tm', st.H⟩ k := by
  unfold aone at ha ⊢
  cases hop : o.op with
  | call c =>
    rw [hop] at h
    simp only [hop] at ha ⊢
    have hargs : c.args.toList.map (aeval T.ng st.tmps) = c.args.toList.map (aeval T.ng tm') := List.map_congr_left fun x hx => h x (by
      simp only [Op.operands, Call.operands, Array.toList_append, List.mem_append]; exact .inr hx)
    cases hcal : c.callee with
    | value f =>
      have hf : aeval T.ng st.tmps f = aeval T.ng tm' f := h f (by simp [Op.operands, Call.operands, hcal])
      simp only [hcal] at ha ⊢
      rw [← hf, ← hargs]
      exact ha
    | builtin b => simp only [hcal] at ha ⊢; rw [← hargs]; exact ha
    | invoke r m => simp only [hcal] at ha
  | _ =>
    rw [hop] at h
    simp only [hop] at ha ⊢
    rw [← aop_congr h]
    exact ha

theorem awanted_congr {ops : Array Oper} {o : Oper} {tm tm' : List Value} (hl : tm.length = tm'.length) (h : ∀ t ∈ o.looksAt ops, tm.getD t undef = tm'.getD t undef) : awanted ops tm o = awanted ops tm' o := by
  unfold awanted
  cases hg : o.guard with
  | none => rfl
  | some g =>
    obtain ⟨j, want⟩ := g
    simp only
    cases hj : ops[j]? with
    | none => rfl
    | some oj =>
      simp only
      cases hd : oj.dst with
      | none => rfl
      | some d =>
        simp only
        have hd' : d ∈ o.looksAt ops := by
          unfold Oper.looksAt
          refine List.mem_append_right _ ?_
          simp [hg, hj, hd]
        have e := h d hd'
        have : tm[d]? = tm'[d]? := by
          rcases Nat.lt_or_ge d tm.length with hlt | hge
          · rw [List.getD_eq_getElem?_getD, List.getD_eq_getElem?_getD, List.getElem?_eq_getElem hlt, List.getElem?_eq_getElem (by omega)] at e
            rw [List.getElem?_eq_getElem hlt, List.getElem?_eq_getElem (by omega)]
            simpa using e
          · rw [List.getElem?_eq_none hge, List.getElem?_eq_none (by omega)]
        rw [this]

theorem reach_closed {ops : Array Oper} {p : Nat → Prop} (hp : ∀ j, p j → ∀ k ∈ preds ops j, p k) : ∀ (n i j : Nat), reach ops n i j = true → (∀ k ∈ preds ops j, p k) → p i
  | 0, _, _, h, _ => by cases h
  | n + 1, i, j, h, hj => by
    simp only [reach, List.any_eq_true, Bool.or_eq_true, beq_iff_eq] at h
    obtain ⟨k, hk, h⟩ := h
    rcases h with rfl | h
    · exact hj _ hk
    · exact reach_closed hp n i k h (hp k (hj k hk))

def mix (ops : Array Oper) (listed : Array Bool) (t0 t1 : List Value) : List Value :=
  (List.range t0.length).map fun t => if (List.range ops.size).any (fun i => listed.getD i false && (dstOf ops i == some t)) then t1.getD t undef else t0.getD t undef

theorem mix_length (ops : Array Oper) (listed : Array Bool) (t0 t1 : List Value) : (mix ops listed t0 t1).length = t0.length := by simp [mix]
theorem mix_yes {ops : Array Oper} {listed : Array Bool} {t0 t1 : List Value} {t i : Nat} (ht : t < t0.length) (hi : i < ops.size) (hl : listed.getD i false = true) (hd : dstOf ops i = some t) : (mix ops listed t0 t1).getD t undef = t1.getD t undef := by
  unfold mix
  rw [List.getD_eq_getElem?_getD, List.getElem?_map, List.getElem?_range ht]
  simp only [Option.map_some, Option.getD_some]
  rw [if_pos]
  rw [List.any_eq_true]
  exact ⟨i, by simpa using hi, by simp [hl, hd]⟩
theorem mix_no {ops : Array Oper} {listed : Array Bool} {t0 t1 : List Value} {t : Nat} (h : ∀ i, i < ops.size → listed.getD i false = true → dstOf ops i ≠ some t) : (mix ops listed t0 t1).getD t undef = t0.getD t undef := by
  unfold mix
  rw [List.getD_eq_getElem?_getD, List.getElem?_map]
  rcases Nat.lt_or_ge t t0.length with ht | ht
  · rw [List.getElem?_range ht]
    simp only [Option.map_some, Option.getD_some]
    rw [if_neg]
    intro hh
    rw [List.any_eq_true] at hh
    obtain ⟨i, hi, hc⟩ := hh
    simp only [Bool.and_eq_true, beq_iff_eq] at hc
    exact h i (by simpa using hi) hc.1 hc.2
  · rw [List.getElem?_eq_none (by simpa using ht), List.getD_eq_getElem?_getD, List.getElem?_eq_none ht]
    rfl

structure Sta (ops : Array Oper) (len : Nat) (ord : List Nat) : Prop where
  uniq : ∀ (i j t : Nat), i < ops.size → j < ops.size → dstOf ops i = some t → dstOf ops j = some t → i = j
  inb : ∀ (i t : Nat), i < ops.size → dstOf ops i = some t → t < len
  look : ∀ i, i < ops.size → ∀ t ∈ looksOf ops i, ∀ j, j < ops.size → j ≠ i → dstOf ops j = some t → reach ops ops.size j i = true ∨ reach ops ops.size i j = true
  all : ∀ i, i < ops.size → i ∈ ord
  suf : sufB ops ord = true
  pin : ∀ i, i < ops.size → ∀ k ∈ preds ops i, k ∈ ord
  lt : ∀ i ∈ ord, i < ops.size

def PV (T : Tab) (ops : Array Oper) (t0 : List Value) (st : St) (pend : List (Nat × List Value × Value)) (i : Nat) : Prop :=
  ∃ o tm, ops[i]? = some o ∧ tm.length = t0.length ∧
    (∀ t ∈ o.looksAt ops, (∀ j, j < ops.size → j ≠ i → dstOf ops j = some t → reach ops ops.size j i = true → tm.getD t undef = st.tmps.getD t undef) ∧
      ((∀ j, j < ops.size → j ≠ i → dstOf ops j = some t → reach ops ops.size j i = false) → tm.getD t undef = t0.getD t undef)) ∧
    pureOp o.op = true ∧
    ((awanted ops tm o = some true ∧ ∃ v, (i, tm, v) ∈ pend ∧ aop T st.H (aeval T.ng tm) o.op = some (some v, st.H) ∧ ∀ d, o.dst = some d → st.tmps.getD d undef = v) ∨
     (awanted ops tm o = some false ∧ ∀ d, o.dst = some d → st.tmps.getD d undef = undef))

/-- Where a region stands that draws its order. -/
structure Node (P : Program) (T : Tab) (ops : Array Oper) (t0 : List Value) (K : St → Prop) (is : List Nat) (st : St) (pend : List (Nat × List Value × Value)) (L : Array Bool) : Prop where
  ob : adraw P T ops is st pend K
  suf : sufB ops is = true
  isL : ∀ i ∈ is, L.getD i false = false ∧ i < ops.size
  eff : ∀ i, i < ops.size → i ∉ is → isPure ops i = false → L.getD i false = true
  dn : ∀ i, i < ops.size → i ∉ is → ∀ k ∈ preds ops i, k ∉ is
  size : L.size = ops.size
  closed : ∀ j, L.getD j false = true → ∀ k ∈ preds ops j, L.getD k false = true
  lens : st.tmps.length = t0.length
  old : ∀ t, (∀ j, j < ops.size → j ∉ is → dstOf ops j ≠ some t) → st.tmps.getD t undef = t0.getD t undef
  pv : ∀ i, i < ops.size → i ∉ is → L.getD i false = false → PV T ops t0 st pend i

theorem aput_length (t : List Value) (d : Option Tmp) (v : Value) : (aput t d v).length = t.length := by cases d <;> simp [aput]
theorem aput_ne {t : List Value} {d : Option Tmp} {v : Value} {x : Nat} (h : d ≠ some x) : (aput t d v).getD x undef = t.getD x undef := by
  cases d with
  | none => rfl
  | some d =>
    have : d ≠ x := fun e => h (by rw [e])
    simp only [aput, List.getD_eq_getElem?_getD, List.getElem?_set, if_neg this]
theorem aput_eq {t : List Value} {d : Nat} {v : Value} (h : d < t.length) : (aput t (some d) v).getD d undef = v := by
  simp [aput, List.getD_eq_getElem?_getD, List.getElem?_set, h]

theorem getD_ext {a b : List Value} (hl : a.length = b.length) (h : ∀ t, a.getD t undef = b.getD t undef) : a = b := by
  apply List.ext_getElem hl
  intro i h1 h2
  have := h i
  rw [List.getD_eq_getElem?_getD, List.getD_eq_getElem?_getD, List.getElem?_eq_getElem h1, List.getElem?_eq_getElem h2] at this
  simpa using this

variable {ops : Array Oper} {t0 : List Value} {K : St → Prop} {is ord : List Nat} {st : St} {pend : List (Nat × List Value × Value)} {L : Array Bool}

theorem lt_of_listed {i : Nat} (hs : L.size = ops.size) (h : L.getD i false = true) : i < ops.size := by
  rcases Nat.lt_or_ge i L.size with hl | hl
  · omega
  · rw [Array.getD_eq_getD_getElem?, Array.getElem?_eq_none hl] at h; cases h

/-- One more has come up. -/
theorem mix_step (S : Sta ops t0.length ord) (hs : L.size = ops.size) {t1 : List Value} (hl : t1.length = t0.length) {c : Nat} (hc : c < ops.size) (hL : L.getD c false = false) {v : Value} :
    mix ops (L.setIfInBounds c true) t0 (aput t1 (dstOf ops c) v) = aput (mix ops L t0 t1) (dstOf ops c) v := by
  have hset : ∀ k, (L.setIfInBounds c true).getD k false = true ↔ k = c ∨ L.getD k false = true := by
    intro k
    by_cases hk : c = k
    · subst hk
      simp [Array.getD_eq_getD_getElem?, hs, hc]
    · rw [Array.getD_eq_getD_getElem?, Array.getElem?_setIfInBounds, if_neg hk, ← Array.getD_eq_getD_getElem?]
      constructor
      · intro h; exact .inr h
      · rintro (h | h)
        · exact absurd h.symm hk
        · exact h
  refine getD_ext (by rw [mix_length, aput_length, mix_length]) fun t => ?_
  by_cases hd : dstOf ops c = some t
  · have ht := S.inb c t hc hd
    have ht1 : t < t1.length := by rw [hl]; exact ht
    rw [mix_yes ht hc ((hset c).2 (.inl rfl)) hd, hd, aput_eq ht1, aput_eq (by rw [mix_length]; exact ht)]
  · rw [aput_ne hd]
    by_cases hk : ∃ k, k < ops.size ∧ L.getD k false = true ∧ dstOf ops k = some t
    · obtain ⟨k, hk1, hk2, hk3⟩ := hk
      have ht := S.inb k t hk1 hk3
      rw [mix_yes ht hk1 ((hset k).2 (.inr hk2)) hk3, mix_yes ht hk1 hk2 hk3, aput_ne hd]
    · rw [mix_no fun k hk1 hk2 hk3 => ?_, mix_no fun k hk1 hk2 hk3 => hk ⟨k, hk1, hk2, hk3⟩]
      rcases (hset k).1 hk2 with rfl | h
      · exact hd hk3
      · exact hk ⟨k, hk1, h, hk3⟩

/-- What a ready operation looks at. -/
theorem node_value (S : Sta ops t0.length ord) (hN : Node P T ops t0 K is st pend L) {i : Nat} (hi : i < ops.size) (hL : L.getD i false = false) (hr : ∀ k ∈ preds ops i, L.getD k false = true) {t : Tmp} (ht : t ∈ looksOf ops i) :
    ((∃ j, j < ops.size ∧ j ≠ i ∧ dstOf ops j = some t ∧ reach ops ops.size j i = true) ∧ (mix ops L t0 st.tmps).getD t undef = st.tmps.getD t undef) ∨
    ((∀ j, j < ops.size → j ≠ i → dstOf ops j = some t → reach ops ops.size j i = false) ∧ (mix ops L t0 st.tmps).getD t undef = t0.getD t undef) := by
  by_cases h : ∃ j, j < ops.size ∧ j ≠ i ∧ dstOf ops j = some t ∧ reach ops ops.size j i = true
  · refine .inl ⟨h, ?_⟩
    obtain ⟨j, h1, h2, h3, h4⟩ := h
    have := reach_closed (p := fun k => L.getD k false = true) (fun j hj k hk => hN.closed j hj k hk) _ j i h4 hr
    exact mix_yes (S.inb j t h1 h3) h1 this h3
  · have hno : ∀ j, j < ops.size → j ≠ i → dstOf ops j = some t → reach ops ops.size j i = false := fun j h1 h2 h3 => by
      cases h4 : reach ops ops.size j i with
      | false => rfl
      | true => exact absurd ⟨j, h1, h2, h3, h4⟩ h
    refine .inr ⟨hno, mix_no fun k hk1 hk2 hk3 => ?_⟩
    have hki : k ≠ i := fun e => by rw [e, hL] at hk2; cases hk2
    rcases S.look i hi t ht k hk1 hki hk3 with h4 | h4
    · rw [hno k hk1 hki hk3] at h4; cases h4
    · have := reach_closed (p := fun k => L.getD k false = true) (fun j hj k hk => hN.closed j hj k hk) _ i k h4 (hN.closed k hk2)
      rw [hL] at this; cases this

theorem looksOf_some {i : Nat} {o : Oper} (h : ops[i]? = some o) : looksOf ops i = o.looksAt ops := by simp [looksOf, h]
theorem dstOf_some {i : Nat} {o : Oper} (h : ops[i]? = some o) : dstOf ops i = o.dst := by simp [dstOf, h]
theorem isPure_some {i : Nat} {o : Oper} (h : ops[i]? = some o) : isPure ops i = pureOp o.op := by simp [isPure, h]

theorem pend_mem {H1 : AHeap} {c : Nat} : ∀ {pend : List (Nat × List Value × Value)}, pendOK T ops H1 c pend → ∀ {i : Nat} {tm : List Value} {v : Value}, (i, tm, v) ∈ pend → reach ops ops.size i c = false → ∀ {o : Oper}, ops[i]? = some o → aop T H1 (aeval T.ng tm) o.op = some (some v, H1)
  | [], _, _, _, _, hm, _, _, _ => by cases hm
  | (i', tm', v') :: r, h, i, tm, v, hm, hr, o, ho => by
    simp only [pendOK] at h
    cases hm with
    | head => rw [hr] at h; simp only [ho] at h; exact h.1
    | tail _ hm => exact pend_mem h.2 hm hr ho

/-- The slots move on: what has been reckoned keeps its worth. -/
theorem PV.step (S : Sta ops t0.length ord) {i c : Nat} (hi : i < ops.size) (hc : c < ops.size) (hne : i ≠ c) (hnr : reach ops ops.size c i = false) {st : St} {H1 : AHeap} {v : Value} {pend pend' : List (Nat × List Value × Value)} (hsub : ∀ x ∈ pend, x ∈ pend')
    (hH : H1 = st.H ∨ (pendOK T ops H1 c pend ∧ reach ops ops.size i c = false)) (h : PV T ops t0 st pend i) : PV T ops t0 ⟨aput st.tmps (dstOf ops c) v, H1⟩ pend' i := by
  obtain ⟨o, tm, h1, h2, h3, h4, h5⟩ := h
  have hdst : ∀ d, o.dst = some d → dstOf ops c ≠ some d := fun d hd e => hne (S.uniq i c d hi hc (by rw [dstOf_some h1]; exact hd) e)
  refine ⟨o, tm, h1, h2, fun t ht => ⟨fun j hj1 hj2 hj3 hj4 => ?_, (h3 t ht).2⟩, h4, ?_⟩
  · have hjc : j ≠ c := fun e => by rw [e, hnr] at hj4; cases hj4
    rw [(h3 t ht).1 j hj1 hj2 hj3 hj4]
    exact (aput_ne fun e => hjc (S.uniq j c t hj1 hc hj3 e)).symm
  · rcases h5 with ⟨h6, u, h7, h8, h9⟩ | ⟨h6, h7⟩
    · refine .inl ⟨h6, u, hsub _ h7, ?_, fun d hd => ?_⟩
      · rcases hH with rfl | ⟨hp, hr⟩
        · exact h8
        · exact pend_mem hp h7 hr h1
      · exact (aput_ne (hdst d hd)).trans (h9 d hd)
    · exact .inr ⟨h6, fun d hd => (aput_ne (hdst d hd)).trans (h7 d hd)⟩

theorem sufB_cons {c : Nat} {r : List Nat} (h : sufB ops (c :: r) = true) : c ∉ r ∧ (∀ k ∈ preds ops c, k ∉ c :: r) ∧ (isPure ops c = true ∨ ∀ i ∈ r, reach ops ops.size c i = true) ∧ sufB ops r = true := by
  simp only [sufB, Bool.and_eq_true, Bool.or_eq_true] at h
  obtain ⟨⟨⟨h1, h2⟩, h3⟩, h4⟩ := h
  refine ⟨by simpa using h1, fun k hk => ?_, ?_, h4⟩
  · rw [List.all_eq_true] at h2
    have := h2 k hk
    simpa using this
  · rcases h3 with h3 | h3
    · exact .inl h3
    · exact .inr fun i hi => by rw [List.all_eq_true] at h3; exact h3 i hi

theorem set_listed {c k : Nat} (hs : L.size = ops.size) (hc : c < ops.size) : (L.setIfInBounds c true).getD k false = true ↔ k = c ∨ L.getD k false = true := by
  by_cases hk : c = k
  · subst hk
    simp [Array.getD_eq_getD_getElem?, hs, hc]
  · rw [Array.getD_eq_getD_getElem?, Array.getElem?_setIfInBounds, if_neg hk, ← Array.getD_eq_getD_getElem?]
    constructor
    · intro h; exact .inr h
    · rintro (h | h)
      · exact absurd h.symm hk
      · exact h

/-- What waits for none that is still to come. -/
theorem Node.no_reach (S : Sta ops t0.length ord) {c : Nat} (hN : Node P T ops t0 K (c :: is) st pend L) {i : Nat} (hi : i < ops.size) (hni : i ∉ c :: is) : reach ops ops.size c i = false := by
  cases h : reach ops ops.size c i with
  | false => rfl
  | true =>
    have hpin : ∀ j, j < ops.size → ∀ k ∈ preds ops j, k < ops.size := fun j hj k hk => S.lt _ (S.pin j hj k hk)
    have := reach_closed (p := fun k => k < ops.size ∧ k ∉ c :: is) (fun j hj k hk => ⟨hpin j hj.1 k hk, hN.dn j hj.1 hj.2 k hk⟩) _ c i h (fun k hk => ⟨hpin i hi k hk, hN.dn i hi hni k hk⟩)
    exact absurd (by simp) this.2

theorem mix_same (S : Sta ops t0.length ord) {c : Nat} (hc : c < ops.size) (hL : L.getD c false = false) {t1 : List Value} {v : Value} : mix ops L t0 (aput t1 (dstOf ops c) v) = mix ops L t0 t1 := by
  refine getD_ext (by rw [mix_length, mix_length]) fun t => ?_
  by_cases hk : ∃ k, k < ops.size ∧ L.getD k false = true ∧ dstOf ops k = some t
  · obtain ⟨k, hk1, hk2, hk3⟩ := hk
    have ht := S.inb k t hk1 hk3
    rw [mix_yes ht hk1 hk2 hk3, mix_yes ht hk1 hk2 hk3]
    refine aput_ne fun e => ?_
    have := S.uniq c k t hc hk1 e hk3
    rw [← this, hL] at hk2
    cases hk2
  · rw [mix_no fun k hk1 hk2 hk3 => hk ⟨k, hk1, hk2, hk3⟩, mix_no fun k hk1 hk2 hk3 => hk ⟨k, hk1, hk2, hk3⟩]

theorem Node.pureStep (S : Sta ops t0.length ord) {c : Nat} (hN : Node P T ops t0 K (c :: is) st pend L) (hp : isPure ops c = true) :
    ∃ st' pend', Node P T ops t0 K is st' pend' L ∧ mix ops L t0 st'.tmps = mix ops L t0 st.tmps ∧ st'.H = st.H := by
  obtain ⟨hLc, hc⟩ := hN.isL c (by simp)
  obtain ⟨s1, s2, s3, s4⟩ := sufB_cons hN.suf
  have ho : ops[c]? = some ops[c] := getElem?_pos ops c hc
  generalize ops[c] = o at ho
  have hpo : pureOp o.op = true := by rw [← isPure_some ho]; exact hp
  have hob := hN.ob
  simp only [adraw, ho] at hob
  cases hw : awanted ops st.tmps o with
  | none => rw [hw] at hob; exact hob.elim
  | some t =>
    simp only [hw, hpo] at hob
    -- what is common to both
    have common : ∀ (v : Value) (pend' : List (Nat × List Value × Value)), (∀ x ∈ pend, x ∈ pend') → adraw P T ops is ⟨aput st.tmps o.dst v, st.H⟩ pend' K →
        ((awanted ops st.tmps o = some true ∧ (c, st.tmps, v) ∈ pend' ∧ aop T st.H (aeval T.ng st.tmps) o.op = some (some v, st.H)) ∨ (awanted ops st.tmps o = some false ∧ v = undef)) →
        Node P T ops t0 K is ⟨aput st.tmps o.dst v, st.H⟩ pend' L := by
      intro v pend' hsub hob' hval
      have hd := dstOf_some ho
      refine ⟨hob', s4, fun i hi => hN.isL i (by simp [hi]), fun i hi hni hpi => ?_, fun i hi hni k hk => ?_, hN.size, hN.closed, by simp only [aput_length]; exact hN.lens, fun t ht => ?_, fun i hi hni hLi => ?_⟩
      · by_cases e : i = c
        · subst e; rw [hp] at hpi; cases hpi
        · exact hN.eff i hi (by simp [e, hni]) hpi
      · by_cases e : i = c
        · subst e; exact fun h => s2 k hk (by simp [h])
        · exact fun h => hN.dn i hi (by simp [e, hni]) k hk (by simp [h])
      · have h1 : dstOf ops c ≠ some t := ht c hc s1
        rw [← hd]
        exact (aput_ne h1).trans (hN.old t fun j hj hnj => ht j hj fun h => hnj (by simp [h]))
      · by_cases e : i = c
        · subst e
          refine ⟨o, st.tmps, ho, hN.lens, fun t ht => ⟨fun j hj1 hj2 hj3 hj4 => ?_, fun hno => ?_⟩, hpo, ?_⟩
          · rw [← hd]
            exact (aput_ne fun e => hj2 (S.uniq j i t hj1 hc hj3 e)).symm
          · refine hN.old t fun j hj hnj hdj => ?_
            have hji : j ≠ i := fun e => hnj (by simp [e])
            rcases S.look i hc t (by rw [looksOf_some ho]; exact ht) j hj hji hdj with h4 | h4
            · rw [hno j hj hji hdj] at h4; cases h4
            · rw [hN.no_reach S hj hnj] at h4; cases h4
          · rcases hval with ⟨h1, h2, h3⟩ | ⟨h1, rfl⟩
            · refine .inl ⟨h1, v, h2, h3, fun d hd' => ?_⟩
              simp only [hd']
              exact aput_eq (by rw [hN.lens]; exact S.inb i d hc (by rw [hd]; exact hd'))
            · refine .inr ⟨h1, fun d hd' => ?_⟩
              simp only [hd']
              exact aput_eq (by rw [hN.lens]; exact S.inb i d hc (by rw [hd]; exact hd'))
        · have hni' : i ∉ c :: is := by simp [e, hni]
          have := (hN.pv i hi hni' hLi).step (v := v) (H1 := st.H) S hi hc e (hN.no_reach S hi hni') hsub (.inl rfl)
          rw [hd] at this
          exact this
    have hmix : ∀ v, mix ops L t0 (aput st.tmps o.dst v) = mix ops L t0 st.tmps := fun v => by rw [← dstOf_some ho]; exact mix_same S hc hLc
    cases t with
    | true =>
      simp only at hob
      split at hob
      · rename_i v H1 hop
        split at hob
        · rename_i v
          have := pure_heap hpo hop
          subst this
          exact ⟨_, _, common v _ (fun x hx => List.mem_cons_of_mem _ hx) hob (.inl ⟨hw, by simp, hop⟩), hmix v, rfl⟩
        · exact hob.elim
      · exact hob.elim
    | false => exact ⟨_, _, common undef _ (fun x hx => hx) hob (.inr ⟨hw, rfl⟩), hmix undef, rfl⟩

theorem Node.advance (S : Sta ops t0.length ord) : ∀ (is : List Nat) (st : St) (pend : List (Nat × List Value × Value)), Node P T ops t0 K is st pend L →
    ∃ is' st' pend', Node P T ops t0 K is' st' pend' L ∧ mix ops L t0 st'.tmps = mix ops L t0 st.tmps ∧ st'.H = st.H ∧ ∀ c r, is' = c :: r → isPure ops c = false
  | [], st, pend, hN => ⟨[], st, pend, hN, rfl, rfl, fun c r h => by cases h⟩
  | c :: is, st, pend, hN => by
    cases hp : isPure ops c with
    | false => exact ⟨c :: is, st, pend, hN, rfl, rfl, fun c' r h => by cases h; exact hp⟩
    | true =>
      obtain ⟨st1, pend1, h1, h2, h3⟩ := hN.pureStep S hp
      obtain ⟨is', st', pend', g1, g2, g3, g4⟩ := Node.advance S is st1 pend1 h1
      exact ⟨is', st', pend', g1, g2.trans h2, g3.trans h3, g4⟩

theorem Node.list (hN : Node P T ops t0 K is st pend L) {i : Nat} (hi : i < ops.size) (hni : i ∉ is) (hr : ∀ k ∈ preds ops i, L.getD k false = true) : Node P T ops t0 K is st pend (L.setIfInBounds i true) := by
  have hset : ∀ k, (L.setIfInBounds i true).getD k false = true ↔ k = i ∨ L.getD k false = true := fun k => set_listed hN.size hi
  have hno : ∀ k, (L.setIfInBounds i true).getD k false = false → k ≠ i ∧ L.getD k false = false := fun k h => by
    refine ⟨fun e => ?_, ?_⟩
    · rw [(hset k).2 (.inl e)] at h; cases h
    · cases hk : L.getD k false with
      | false => rfl
      | true => rw [(hset k).2 (.inr hk)] at h; cases h
  refine ⟨hN.ob, hN.suf, fun k hk => ⟨?_, (hN.isL k hk).2⟩, fun k hk hnk hp => (hset k).2 (.inr (hN.eff k hk hnk hp)), hN.dn, by simp [hN.size], fun j hj k hk => ?_, hN.lens, hN.old, fun k hk hnk hLk => hN.pv k hk hnk (hno k hLk).2⟩
  · cases h : (L.setIfInBounds i true).getD k false with
    | false => rfl
    | true =>
      rcases (hset k).1 h with rfl | h
      · exact absurd hk hni
      · rw [(hN.isL k hk).1] at h; cases h
  · rcases (hset j).1 hj with rfl | h
    · exact (hset k).2 (.inr (hr k hk))
    · exact (hset k).2 (.inr (hN.closed j h k hk))

theorem Node.effStep (S : Sta ops t0.length ord) {c : Nat} (hN : Node P T ops t0 K (c :: is) st pend L) (hp : isPure ops c = false) (hr : ∀ k ∈ preds ops c, L.getD k false = true) {v : Value} {H1 : AHeap}
    (hob : adraw P T ops is ⟨aput st.tmps (dstOf ops c) v, H1⟩ pend K) (hH : H1 = st.H ∨ pendOK T ops H1 c pend) : Node P T ops t0 K is ⟨aput st.tmps (dstOf ops c) v, H1⟩ pend (L.setIfInBounds c true) := by
  obtain ⟨hLc, hc⟩ := hN.isL c (by simp)
  obtain ⟨s1, s2, s3, s4⟩ := sufB_cons hN.suf
  have hset : ∀ k, (L.setIfInBounds c true).getD k false = true ↔ k = c ∨ L.getD k false = true := fun k => set_listed hN.size hc
  refine ⟨hob, s4, fun k hk => ⟨?_, (hN.isL k (by simp [hk])).2⟩, fun i hi hni hpi => ?_, fun i hi hni k hk => ?_, by simp [hN.size], fun j hj k hk => ?_, by simp only [aput_length]; exact hN.lens, fun t ht => ?_, fun i hi hni hLi => ?_⟩
  · cases h : (L.setIfInBounds c true).getD k false with
    | false => rfl
    | true =>
      rcases (hset k).1 h with rfl | h
      · exact absurd hk s1
      · rw [(hN.isL k (by simp [hk])).1] at h; cases h
  · by_cases e : i = c
    · exact (hset i).2 (.inl e)
    · exact (hset i).2 (.inr (hN.eff i hi (by simp [e, hni]) hpi))
  · by_cases e : i = c
    · subst e; exact fun h => s2 k hk (by simp [h])
    · exact fun h => hN.dn i hi (by simp [e, hni]) k hk (by simp [h])
  · rcases (hset j).1 hj with rfl | h
    · exact (hset k).2 (.inr (hr k hk))
    · exact (hset k).2 (.inr (hN.closed j h k hk))
  · exact (aput_ne (ht c hc s1)).trans (hN.old t fun j hj hnj => ht j hj fun h => hnj (by simp [h]))
  · have e : i ≠ c := fun e => by rw [(hset i).2 (.inl e)] at hLi; cases hLi
    have hL0 : L.getD i false = false := by
      cases h : L.getD i false with
      | false => rfl
      | true => rw [(hset i).2 (.inr h)] at hLi; cases hLi
    have hni' : i ∉ c :: is := by simp [e, hni]
    refine (hN.pv i hi hni' hL0).step S hi hc e (hN.no_reach S hi hni') (fun x hx => hx) ?_
    rcases hH with h | h
    · exact .inl h
    · refine .inr ⟨h, ?_⟩
      cases hic : reach ops ops.size i c with
      | false => rfl
      | true =>
        have := reach_closed (p := fun k => L.getD k false = true) (fun j hj k hk => hN.closed j hj k hk) _ i c hic hr
        rw [hL0] at this; cases this

theorem cnt_lt {p p' : Nat → Bool} (h : ∀ k, p' k = true → p k = true) {i : Nat} (hi : p i = true) (hi' : p' i = false) : ∀ (l : List Nat), i ∈ l → l.countP p' < l.countP p
  | [], hm => by cases hm
  | x :: l, hm => by
    have hle : l.countP p' ≤ l.countP p := List.countP_mono_left fun k _ hk => h k hk
    rw [List.countP_cons, List.countP_cons]
    cases hm with
    | head => rw [hi, hi']; simp; omega
    | tail _ hm =>
      have ih := cnt_lt h hi hi' l hm
      cases hx : p' x with
      | false => simp; omega
      | true => rw [h x hx]; simp; omega

def left (ops : Array Oper) (L : Array Bool) : Nat := (List.range ops.size).countP fun i => !L.getD i false

theorem left_set {i : Nat} (hs : L.size = ops.size) (hi : i < ops.size) (hL : L.getD i false = false) : left ops (L.setIfInBounds i true) < left ops L := by
  refine cnt_lt (i := i) (fun k hk => ?_) (by simp [hL]) (by simp [(set_listed hs hi).2 (.inl rfl)]) _ (by simpa using hi)
  simp only [Bool.not_eq_true'] at hk ⊢
  cases h : L.getD k false with
  | false => rfl
  | true => rw [(set_listed hs hi).2 (.inr h)] at hk; cases hk

theorem left_zero (h : left ops L = 0) {i : Nat} (hi : i < ops.size) : L.getD i false = true := by
  unfold left at h
  rw [List.countP_eq_zero] at h
  have := h i (by simpa using hi)
  simpa using this

theorem aone_of_aop {o : Oper} {st : St} {v : Value} {H1 : AHeap} (hp : pureOp o.op = true) (h : aop T st.H (aeval T.ng st.tmps) o.op = some (some v, H1)) : aone P T o st fun v' H' => v' = v ∧ H' = H1 := by
  unfold aone
  cases hop : o.op with
  | call c =>
    rw [hop] at hp h
    cases hcal : c.callee with
    | builtin b =>
      simp only [aop, hcal] at h
      simp only [hcal, h, alast]
      exact ⟨trivial, trivial⟩
    | _ => simp [pureOp, hcal] at hp
  | _ =>
    rw [hop] at h
    simp only [h, alast]
    exact ⟨trivial, trivial⟩

theorem aput_self {t : List Value} {d : Option Tmp} {v : Value} (h : ∀ x, d = some x → t.getD x undef = v) : aput t d v = t := by
  refine getD_ext (aput_length _ _ _) fun x => ?_
  by_cases hx : d = some x
  · subst hx
    rcases Nat.lt_or_ge x t.length with hl | hl
    · rw [aput_eq hl, h x rfl]
    · rw [List.getD_eq_getElem?_getD, List.getD_eq_getElem?_getD, List.getElem?_eq_none (by rw [aput_length]; exact hl), List.getElem?_eq_none hl]
  · exact aput_ne hx

theorem mem_readyN {i : Nat} (hs : L.size = ops.size) (h : i ∈ Region.ready .any ops L) : i < ops.size ∧ L.getD i false = false ∧ ∃ o, ops[i]? = some o ∧ ∀ k ∈ preds ops i, L.getD k false = true := by
  obtain ⟨h1, o, h2, h3⟩ := mem_ready.1 h
  have hi : i < ops.size := by
    rcases Nat.lt_or_ge i ops.size with hl | hl
    · exact hl
    · rw [Array.getElem?_eq_none hl] at h2; cases h2
  refine ⟨hi, ?_, o, h2, fun k hk => ?_⟩
  · rw [Array.getD_eq_getD_getElem?, Array.getElem?_eq_getElem (by omega)] at h1 ⊢
    exact h1
  · simp only [preds, h2, List.mem_map, List.mem_filter] at hk
    obtain ⟨e, ⟨he, hb⟩, rfl⟩ := hk
    exact h3 e (by simpa using he) hb

theorem ready_of {i : Nat} (hs : L.size = ops.size) (hi : i < ops.size) (hL : L.getD i false = false) (hr : ∀ k ∈ preds ops i, L.getD k false = true) : i ∈ Region.ready .any ops L := by
  refine mem_ready.2 ⟨?_, ops[i], getElem?_pos ops i hi, fun e he hb => ?_⟩
  · rw [Array.getD_eq_getD_getElem?, Array.getElem?_eq_getElem (by omega)] at hL ⊢
    exact hL
  · refine hr _ ?_
    simp only [preds, getElem?_pos ops i hi, List.mem_map, List.mem_filter]
    exact ⟨e, ⟨by simpa using he, hb⟩, rfl⟩

theorem first_bad {p : Nat → Prop} : ∀ (l : List Nat), (∃ x ∈ l, ¬ p x) → ∃ pre c suf, l = pre ++ c :: suf ∧ (∀ k ∈ pre, p k) ∧ ¬ p c
  | [], h => by obtain ⟨x, hx, _⟩ := h; cases hx
  | a :: l, h => by
    by_cases ha : p a
    · have : ∃ x ∈ l, ¬ p x := by
        obtain ⟨x, hx, hn⟩ := h
        cases hx with
        | head => exact absurd ha hn
        | tail _ hx => exact ⟨x, hx, hn⟩
      obtain ⟨pre, c, suf, h1, h2, h3⟩ := first_bad l this
      refine ⟨a :: pre, c, suf, by rw [h1]; rfl, fun k hk => ?_, h3⟩
      cases hk with
      | head => exact ha
      | tail _ hk => exact h2 k hk
    · exact ⟨[], a, l, rfl, fun k hk => absurd hk (by simp), ha⟩

theorem sufB_drop : ∀ (pre : List Nat) (r : List Nat), sufB ops (pre ++ r) = true → sufB ops r = true
  | [], r, h => h
  | c :: pre, r, h => sufB_drop pre r (sufB_cons h).2.2.2

theorem all_listed (S : Sta ops t0.length ord) (hs : L.size = ops.size) (h : Region.ready .any ops L = []) {i : Nat} (hi : i < ops.size) : L.getD i false = true := by
  cases hL : L.getD i false with
  | true => rfl
  | false =>
    obtain ⟨pre, c, suf, h1, h2, h3⟩ := first_bad (p := fun k => L.getD k false = true) ord ⟨i, S.all i hi, by rw [hL]; simp⟩
    have hc : c < ops.size := S.lt c (by rw [h1]; simp)
    have hsuf := sufB_drop pre (c :: suf) (by rw [← h1]; exact S.suf)
    have hcl : L.getD c false = false := by cases hh : L.getD c false with | false => rfl | true => exact absurd hh h3
    have := ready_of hs hc hcl fun k hk => by
      have h4 := S.pin c hc k hk
      rw [h1, List.mem_append] at h4
      rcases h4 with h4 | h4
      · exact h2 k h4
      · exact absurd h4 ((sufB_cons hsuf).2.1 k hk)
    rw [h] at this
    cases this

theorem mix_full (S : Sta ops t0.length ord) (hN : Node P T ops t0 K is st pend L) (hall : ∀ i, i < ops.size → L.getD i false = true) : mix ops L t0 st.tmps = st.tmps ∧ is = [] := by
  have hnil : is = [] := by
    cases is with
    | nil => rfl
    | cons c r =>
      have := hN.isL c (by simp)
      rw [hall c this.2] at this
      cases this.1
  refine ⟨getD_ext (by rw [mix_length, hN.lens]) fun t => ?_, hnil⟩
  by_cases hk : ∃ k, k < ops.size ∧ dstOf ops k = some t
  · obtain ⟨k, hk1, hk2⟩ := hk
    exact mix_yes (S.inb k t hk1 hk2) hk1 (hall k hk1) hk2
  · rw [mix_no fun k hk1 _ hk3 => hk ⟨k, hk1, hk3⟩, hN.old t fun j hj _ hd => hk ⟨j, hj, hd⟩]

theorem draw_any (hT : TabOK P T) (S : Sta ops t0.length ord) {ro : Option Nat} {N : Dom} {ds : List Deferred} {E0 : Emb} {H0 : AHeap} {w0 : World} : ∀ (fuel : Nat) (is : List Nat) (st : St) (pend : List (Nat × List Value × Value)) (L : Array Bool) (E : Emb) (w : World) (a : Act),
    Node P T ops t0 K is st pend L → (∀ c r, is = c :: r → isPure ops c = false) → left ops L ≤ fuel → N.le st.H.dom → a.defers = ds → TR E st.H.dom (mix ops L t0 st.tmps) a.tmps → R T.ng E st.H w → Fr N E0 H0 w0 E st.H w →
      wpAnyIn (Fz ro) 0 P .any ops (AP T.ng N E0 H0 w0 ds fun e st => e = .normal ∧ K st) fuel L a w := by
  intro fuel
  induction fuel with
  | zero =>
    intro is st pend L E w a hN hst hle hNl hd ht hR hF
    have hall : ∀ i, i < ops.size → L.getD i false = true := fun i hi => left_zero (by omega) hi
    obtain ⟨hm, hnil⟩ := mix_full S hN hall
    subst hnil
    have hob : K st := hN.ob
    refine ⟨?_, [], E, st, by simpa using hd, .nil _ _ _ _, ⟨rfl, hob⟩, hNl, by rw [hm] at ht; exact ht, hR, hF⟩
    cases hr : Region.ready .any ops L with
    | nil => rfl
    | cons i l =>
      obtain ⟨h1, h2, _⟩ := mem_readyN hN.size (show i ∈ Region.ready .any ops L by rw [hr]; simp)
      rw [hall i h1] at h2; cases h2
  | succ fuel ih =>
    intro is st pend L E w a hN hst hle hNl hd ht hR hF
    refine ⟨fun hr => ?_, fun i hir => ?_⟩
    · have hall : ∀ i, i < ops.size → L.getD i false = true := fun i hi => all_listed S hN.size hr hi
      obtain ⟨hm, hnil⟩ := mix_full S hN hall
      subst hnil
      have hob : K st := hN.ob
      exact ⟨[], E, st, by simpa using hd, .nil _ _ _ _, ⟨rfl, hob⟩, hNl, by rw [hm] at ht; exact ht, hR, hF⟩
    · obtain ⟨hi, hL, o, ho, hr⟩ := mem_readyN hN.size hir
      have hleft := left_set hN.size hi hL
      -- going on
      have go : ∀ (is1 : List Nat) (st1 : St) (pend1 : List (Nat × List Value × Value)) (E1 : Emb) (w1 : World) (a1 : Act), Node P T ops t0 K is1 st1 pend1 (L.setIfInBounds i true) → N.le st1.H.dom → a1.defers = ds →
          TR E1 st1.H.dom (mix ops (L.setIfInBounds i true) t0 st1.tmps) a1.tmps → R T.ng E1 st1.H w1 → Fr N E0 H0 w0 E1 st1.H w1 → wpAnyIn (Fz ro) 0 P .any ops (AP T.ng N E0 H0 w0 ds fun e st => e = .normal ∧ K st) fuel (L.setIfInBounds i true) a1 w1 := by
        intro is1 st1 pend1 E1 w1 a1 hN1 g1 g2 g3 g4 g5
        obtain ⟨is2, st2, pend2, q1, q2, q3, q4⟩ := Node.advance S is1 st1 pend1 hN1
        exact ih is2 st2 pend2 _ E1 w1 a1 q1 q4 (by omega) (by rw [q3]; exact g1) g2 (by rw [q2, q3]; exact g3) (by rw [q3]; exact g4) (by rw [q3]; exact g5)
      unfold wpOpIn
      simp only [ho]
      by_cases hmem : i ∈ is
      · -- the next effect
        cases is with
        | nil => cases hmem
        | cons c r =>
          have hci : c = i := by
            cases hmem with
            | head => rfl
            | tail _ hmem =>
              have h3 := (sufB_cons hN.suf).2.2.1
              rw [hst c r rfl] at h3
              have h4 := (h3.resolve_left (by simp)) i hmem
              have := reach_closed (p := fun k => L.getD k false = true) (fun j hj k hk => hN.closed j hj k hk) _ c i h4 hr
              rw [(hN.isL c (by simp)).1] at this; cases this
          subst hci
          have hpc := hst c r rfl
          have hpo : pureOp o.op = false := by rw [← isPure_some ho]; exact hpc
          have hag : ∀ t ∈ o.looksAt ops, st.tmps.getD t undef = (mix ops L t0 st.tmps).getD t undef := by
            intro t htl
            rw [← looksOf_some ho] at htl
            rcases node_value S hN hi hL hr htl with ⟨_, h⟩ | ⟨hno, h⟩
            · exact h.symm
            · rw [h]
              refine hN.old t fun j hj hnj hdj => ?_
              have hjc : j ≠ c := fun e => hnj (by simp [e])
              rcases S.look c hi t htl j hj hjc hdj with h4 | h4
              · rw [hno j hj hjc hdj] at h4; cases h4
              · rw [hN.no_reach S hj hnj] at h4; cases h4
          have hob := hN.ob
          simp only [adraw, ho] at hob
          rw [awanted_congr (by rw [mix_length, hN.lens]) hag] at hob
          cases hw : awanted ops (mix ops L t0 st.tmps) o with
          | none => rw [hw] at hob; exact hob.elim
          | some t =>
            simp only [hw, hpo] at hob
            rw [awanted_real ht hw]
            cases t with
            | true =>
              simp only at hob
              simp only [if_true]
              have h1 := aone_congr (ops_congr (ng := T.ng) hag) hob
              refine opWpIn_mono ?_ (aone_sound (w := w) hT _ h1 ht hR)
              rintro a1 w1 ⟨E1, v, v', H1, ⟨hk1, hk2⟩, rfl, hv, hR1, hF1, hl⟩
              have hn := hN.effStep S hpc hr (by rw [dstOf_some ho]; exact hk2) (.inr hk1)
              refine go _ _ _ E1 w1 _ hn (Dom.le_trans hNl hl) (by rw [put_defers]; exact hd) ?_ hR1 (hF.trans (hF1.less hNl))
              rw [mix_step S hN.size hN.lens hi hL, dstOf_some ho]
              exact (ht.mono hl hF1.ext).put hv
            | false =>
              simp only at hob
              simp only [Bool.false_eq_true, if_false]
              refine ⟨fun _ _ => trivial, ?_⟩
              have hn := hN.effStep S hpc hr (v := undef) (H1 := st.H) (by rw [dstOf_some ho]; exact hob) (.inl rfl)
              refine go _ _ _ E w _ hn hNl (by rw [put_defers]; exact hd) ?_ hR hF
              rw [mix_step S hN.size hN.lens hi hL, dstOf_some ho]
              exact ht.put (.same rfl)
      · -- one that only computes
        obtain ⟨o', tm, h1, h2, h3, h4, h5⟩ := hN.pv i hi hmem hL
        obtain rfl : o' = o := Option.some.inj (h1.symm.trans ho)
        have hag : ∀ t ∈ o'.looksAt ops, tm.getD t undef = (mix ops L t0 st.tmps).getD t undef := by
          intro t htl
          rcases node_value S hN hi hL hr (by rw [looksOf_some ho]; exact htl) with ⟨⟨j, q1, q2, q3, q4⟩, h⟩ | ⟨hno, h⟩
          · rw [h]; exact (h3 t htl).1 j q1 q2 q3 q4
          · rw [h]; exact (h3 t htl).2 hno
        have hn := hN.list hi hmem hr
        have hself : ∀ v, (∀ d, o'.dst = some d → st.tmps.getD d undef = v) → mix ops (L.setIfInBounds i true) t0 st.tmps = aput (mix ops L t0 st.tmps) o'.dst v := by
          intro v hv
          have := mix_step S hN.size hN.lens (t1 := st.tmps) hi hL (v := v)
          rw [dstOf_some ho, aput_self hv] at this
          exact this
        rcases h5 with ⟨h6, v, h7, h8, h9⟩ | ⟨h6, h7⟩
        · rw [awanted_congr (by rw [mix_length, h2]) hag] at h6
          rw [awanted_real ht h6]
          simp only [if_true]
          rw [aop_congr (ops_congr (ng := T.ng) hag)] at h8
          have q := aone_of_aop (P := P) (st := ⟨mix ops L t0 st.tmps, st.H⟩) h4 h8
          refine opWpIn_mono ?_ (aone_sound (w := w) hT _ q ht hR)
          rintro a1 w1 ⟨E1, v1, v', H1, ⟨rfl, rfl⟩, rfl, hv, hR1, hF1, hl⟩
          refine go _ _ _ E1 w1 _ hn hNl (by rw [put_defers]; exact hd) ?_ hR1 (hF.trans (hF1.less hNl))
          rw [hself _ h9]
          exact (ht.mono hl hF1.ext).put hv
        · rw [awanted_congr (by rw [mix_length, h2]) hag] at h6
          rw [awanted_real ht h6]
          simp only [Bool.false_eq_true, if_false]
          refine ⟨fun _ _ => trivial, ?_⟩
          refine go _ _ _ E w _ hn hNl (by rw [put_defers]; exact hd) ?_ hR hF
          rw [hself _ h7]
          exact ht.put (.same rfl)

theorem sta_of (len : Nat) (ord : List Nat) (h : drawOK ops len ord = true) (hp : ((List.range ops.size).all fun i => (preds ops i).all fun k => ord.contains k) = true) : Sta ops len ord := by
  simp only [drawOK, Bool.and_eq_true, List.all_eq_true, List.mem_range, List.contains_iff_mem, decide_eq_true_eq] at h
  obtain ⟨⟨⟨⟨h1, h2⟩, h3⟩, h4⟩, h5⟩ := h
  refine ⟨fun i j t hi hj e1 e2 => ?_, fun i t hi e => ?_, fun i hi t ht j hj hne e => ?_, fun i hi => h1 i hi, h3, fun i hi k hk => ?_, fun i hi => h2 i hi⟩
  · have := h4 i hi
    rw [e1] at this
    simp only [Bool.and_eq_true, List.all_eq_true, List.mem_range, Bool.or_eq_true, beq_iff_eq, bne_iff_ne] at this
    rcases this.2 j hj with h | h
    · exact h
    · exact absurd e2 h
  · have := h4 i hi
    rw [e] at this
    simp only [Bool.and_eq_true, decide_eq_true_eq] at this
    exact this.1
  · have := h5 i hi t ht j hj
    simp only [Bool.or_eq_true, beq_iff_eq, bne_iff_ne] at this
    rcases this with ((h | h) | h) | h
    · exact absurd h.symm hne
    · exact absurd e h
    · exact .inl h
    · exact .inr h
  · simp only [List.all_eq_true, List.mem_range, List.contains_iff_mem] at hp
    exact hp i hi k hk

/-- A region that draws its order, from its canonical run. -/
theorem AW.draw (hT : TabOK P T) (hm : P.follows .mixedOrders = true) {id : Nat} {ops : Array Oper} {st : St} {K : Exit → St → Prop} {N : Dom} (h1 : drawOK ops st.tmps.length (order ops ops.size []) = true)
    (h2 : ((List.range ops.size).all fun i => (preds ops i).all fun k => (order ops ops.size []).contains k) = true) (h : adraw P T ops (order ops ops.size []) st [] fun st' => K .normal st') : AW P T.ng N (.region id ops true) st K := by
  have S := sta_of _ _ h1 h2
  refine ⟨fun ro hN E w a hro ht hR => wpIn_mono (wpIn_region_any hm ?_) (fun _ _ _ => AP.mono (Q := fun e st' => e = .normal ∧ K .normal st') (Q' := K) fun e st hh => hh.1 ▸ hh.2)⟩
  have hheap : ({ w with drawn := w.drawn + 1 } : World).heap = w.heap := rfl
  have hL : ∀ i, (Array.replicate ops.size false).getD i false = false := fun i => by
    rcases Nat.lt_or_ge i ops.size with h | h <;> simp [Array.getD_eq_getD_getElem?, h]
  have hnode : Node P T ops st.tmps (fun st' => K .normal st') (order ops ops.size []) st [] (Array.replicate ops.size false) := by
    refine ⟨h, S.suf, fun i hi => ⟨hL i, S.lt i hi⟩, fun i hi hni => absurd (S.all i hi) hni, fun i hi hni => absurd (S.all i hi) hni, by simp, fun j hj => ?_, rfl, fun t _ => rfl, fun i hi hni => absurd (S.all i hi) hni⟩
    rw [hL j] at hj; cases hj
  have hmix : mix ops (Array.replicate ops.size false) st.tmps st.tmps = st.tmps := getD_ext (mix_length _ _ _ _) fun t => mix_no fun k _ hk _ => by rw [hL k] at hk; cases hk
  obtain ⟨is', st', pend', q1, q2, q3, q4⟩ := Node.advance S _ _ _ hnode
  have := draw_any (ro := ro) (N := N) (ds := a.defers) hT S ops.size is' st' pend' _ E { w with drawn := w.drawn + 1 } a q1 q4 (by
    unfold left
    exact Nat.le_trans List.countP_le_length (by simp)) (by rw [q3]; exact hN) rfl (by rw [q2, hmix, q3]; exact ht) (by rw [q3]; exact hR.heapEq hheap) (by rw [q3]; exact Fr.heapEq hheap ⟨rfl, rfl, rfl⟩)
  exact this
end
end Go.Ab
