/- The engine, part 6: numbers, texts, comparisons, composites, slices. -/
import Derived.Test.YtklebhffmnmeoaaDoorEe
namespace Go.Ab
open Go

theorem beqL_eq : ∀ x y : List UInt8, beqL x y = (x == y)
  | [], [] => rfl
  | [], _ :: _ => rfl
  | _ :: _, [] => rfl
  | a :: x, b :: y => by
    have ih := beqL_eq x y
    simp only [beqL]
    by_cases h : a.toNat = b.toNat
    · have : a = b := UInt8.toNat_inj.1 h
      subst this
      simp [ih]
    · rw [if_neg h]
      have : a ≠ b := fun e => h (by rw [e])
      simp [this]
theorem ltL_eq : ∀ x y : List UInt8, ltL x y = Op.bytesLess x y
  | [], [] => rfl
  | [], _ :: _ => rfl
  | _ :: _, [] => rfl
  | a :: x, b :: y => by
    have ih := ltL_eq x y
    simp only [ltL, Op.bytesLess]
    by_cases h : a.toNat < b.toNat
    · rw [if_pos h]
      have : a < b := UInt8.lt_iff_toNat_lt.2 h
      simp [this]
    · rw [if_neg h]
      have h1 : ¬ a < b := fun e => h (UInt8.lt_iff_toNat_lt.1 e)
      by_cases h2 : a.toNat = b.toNat
      · have : a = b := UInt8.toNat_inj.1 h2
        subst this
        simp [ih]
      · rw [if_neg h2]
        have : a ≠ b := fun e => h2 (by rw [e])
        simp [h1, this]

theorem toList_data (s : ByteArray) : s.toList = s.data.toList := ByteArray.toList_eq s

section
variable {P : Program} {T : Tab} {E : Emb} {H : AHeap} {w : World}

theorem binInt_run (op : BinOp) (t : TypeId) (k : IntKind) (x y : Int) (v : Value) (h : abinInt Prim.real op k x y = some v) : (binOp op t (.int k x) (.int k y)).run P w = .ok v w ∧ flat v = true := by
  cases op <;> simp only [abinInt, Prim.real, realAr] at h <;> try cases h
  all_goals first
    | (refine ⟨?_, rfl⟩; simp [binOp, Op.intArith, Op.intCmp, Op.intBits, realBits]; done)
    | skip
  all_goals first
    | (refine ⟨?_, rfl⟩; simp [binOp, Op.intCmp, bne]; by_cases hxy : x = y <;> simp [hxy]; done)
    | (split at h
       · cases h
       · rename_i hy
         cases h
         refine ⟨?_, rfl⟩
         simp at hy
         simp [binOp, Op.intDiv, hy])
    | skip

theorem binSh_run (op : BinOp) (hop : op = .shl ∨ op = .shr) (t : TypeId) (k k' : IntKind) (x y : Int) (hy : ¬ y < 0) : (binOp op t (.int k x) (.int k' y)).run P w = .ok (.int k (realSh op k x y)) w := by
  rcases hop with rfl | rfl <;> simp [binOp, Op.shift, hy, realSh]

theorem binStr_run (op : BinOp) (t : TypeId) (x y : ByteArray) (v : Value) (h : abinStr Prim.real op x y = some v) : (binOp op t (.string x) (.string y)).run P w = .ok v w := by
  have hc : Prim.real.cat x y = x ++ y := by
    simp only [Prim.real]
    apply ByteArray.ext
    simp
  cases op <;> simp only [abinStr] at h <;> try cases h
  case add =>
    split at h
    · rename_i hle
      cases h
      have hle : x.size + y.size ≤ 9223372036854775807 := of_decide_eq_true hle
      have : ¬ ((x.size + y.size : Nat) : Int) > IntKind.i64.max := by simp [IntKind.max, IntKind.bits, IntKind.signed]; omega
      simp only [binOp, Op.stringOp, if_neg this, Sem.run_pure, hc]
    · cases h
  all_goals simp [binOp, Op.stringOp, toList_data, Prim.real, beqL_eq, ltL_eq]

theorem guard_run {op : BinOp} {t : TypeId} {x y : Operand} {a b : Value} (h1 : ¬ (a = .nilIface ∧ b = .nilIface)) (h2 : ∀ c d, ¬ (a = .agg c ∧ b = .agg d)) : (eqGuard op t x y a b).run P w = .ok () w := by
  unfold eqGuard
  cases a <;> cases b <;> first
    | (exact absurd ⟨rfl, rfl⟩ h1)
    | (exact absurd ⟨rfl, rfl⟩ (h2 _ _))
    | (split <;> rfl)

set_option maxHeartbeats 1000000 in
/-- '==' against nil, and of bools. -/
theorem aeq_run (hT : TabOK P T) {n : Dom} {t : TypeId} {i : TI} (hi : T.ty t = some i) {x y x' y' : Value} {r : Bool} (h : aeq i.desc x y = some r) (hx : VR E n x x') (hy : VR E n y y') :
    (∀ d, (Op.equalIn (d + 1) t x' y').run P w = .ok r w) ∧ ¬ (x' = .nilIface ∧ y' = .nilIface) ∧ (∀ c d, ¬ (x' = .agg c ∧ y' = .agg d)) ∧ (∀ k a k' b, ¬ (x' = .int k a ∧ y' = .int k' b)) ∧ (∀ k a k' b, ¬ (x' = .float k a ∧ y' = .float k' b)) ∧ (∀ k a c k' b d, ¬ (x' = .complex k a c ∧ y' = .complex k' b d)) ∧ (∀ a b, ¬ (x' = .string a ∧ y' = .string b)) := by
  unfold aeq at h
  split at h <;> rename_i hd
  all_goals first
    | (cases h; done)
    | skip
  all_goals (have hu := run_und hT hi hd rfl w; cases h)
  · have e1 := hx.bool; have e2 := hy.bool; subst e1 e2
    refine ⟨by intro d; simp [Op.equalIn, hu], ?_⟩
    simp
  · have e1 := hx.nilPtr; subst e1
    refine ⟨?_, by simp, by simp, by simp, by simp, by simp, by simp⟩
    cases hy with
    | same h => rename_i b; cases b <;> first | (intro d; simp [Op.equalIn, hu]; done) | cases h
    | ptr hb => (intro d; simp [Op.equalIn, hu])
  · have e2 := hy.nilPtr; subst e2
    cases hx with
    | same h => cases h
    | ptr hb => exact ⟨by intro d; simp [Op.equalIn, hu], by simp⟩
  · obtain ⟨e1, e3, e4⟩ := hx.nilSlice; subst e1
    refine ⟨?_, by simp, by simp, by simp, by simp, by simp, by simp⟩
    cases hy with
    | same h => rename_i b _ _; cases b <;> first | (intro d; simp [Op.equalIn, hu]; done) | cases h
    | slice hb => (intro d; simp [Op.equalIn, hu])
  · obtain ⟨e2, e3, e4⟩ := hy.nilSlice; subst e2
    cases hx with
    | same h => cases h
    | slice hb => exact ⟨by intro d; simp [Op.equalIn, hu], by simp⟩
  · have e1 := hx.nilMap; subst e1
    refine ⟨?_, by simp, by simp, by simp, by simp, by simp, by simp⟩
    cases hy with
    | same h => rename_i b; cases b <;> first | (intro d; simp [Op.equalIn, hu]; done) | cases h
    | map hb => (intro d; simp [Op.equalIn, hu])
  · have e2 := hy.nilMap; subst e2
    cases hx with
    | same h => cases h
    | map hb => exact ⟨by intro d; simp [Op.equalIn, hu], by simp⟩
  · have e1 := hx.nilF; have e2 := hy.nilF; subst e1 e2
    exact ⟨by intro d; simp [Op.equalIn, hu], by simp⟩
  · have e1 := hx.nilF; subst e1
    cases hy with
    | same h => cases h
    | func _ _ _ _ => exact ⟨by intro d; simp [Op.equalIn, hu], by simp⟩
    | yield _ => exact ⟨by intro d; simp [Op.equalIn, hu], by simp⟩
  · have e2 := hy.nilF; subst e2
    cases hx with
    | same h => cases h
    | func _ _ _ _ => exact ⟨by intro d; simp [Op.equalIn, hu], by simp⟩
    | yield _ => exact ⟨by intro d; simp [Op.equalIn, hu], by simp⟩
  · have e1 := hx.nilI; subst e1
    cases hy with
    | same h => cases h
    | iface _ _ => exact ⟨by intro d; simp [Op.equalIn, hu], by simp⟩
  · have e2 := hy.nilI; subst e2
    cases hx with
    | same h => cases h
    | iface _ _ => exact ⟨by intro d; simp [Op.equalIn, hu], by simp⟩

theorem beqL_bytes (a b : ByteArray) : beqL a.data.toList b.data.toList = (a == b) := by
  rw [beqL_eq, beq_toListBytes, ByteArray.toList_eq, ByteArray.toList_eq]

theorem aeqFs_run (hT : TabOK P T) {n : Dom} {eq : TypeId → Value → Value → Option Bool} {d : Nat} {xs ys xs' ys' : Array Value} (hx : PL E n xs.toList xs'.toList) (hy : PL E n ys.toList ys'.toList)
    (heq : ∀ t a b r a' b', eq t a b = some r → VR E n a a' → VR E n b b' → (Op.equalIn d t a' b').run P w = .ok r w) : ∀ (fs : List Field) (r : Bool), fs.all (fun f => f.name != "_") = true → aeqFs T eq xs.toList ys.toList (fs.map stripF) = some r →
      (Op.eqFields d xs' ys' fs).run P w = .ok r w
  | [], r, _, h => by
    simp only [List.map_nil, aeqFs] at h
    cases h
    simp [Op.eqFields]
  | f :: fs, r, hn, h => by
    simp only [List.all_cons, Bool.and_eq_true, bne_iff_ne] at hn
    simp only [List.map_cons, aeqFs, stripF] at h
    rw [Op.eqFields, if_pos hn.1]
    split at h
    · rename_i a ha
      split at h
      · rename_i b hb
        split at h
        · rename_i r1 hr1
          obtain ⟨a', g1, g2⟩ := apart_sound hT w hx ha
          obtain ⟨b', g3, g4⟩ := apart_sound hT w hy hb
          simp only [Sem.run_bind, g1, g3, heq _ _ _ _ _ _ hr1 g2 g4, Result.andThen_ok]
          split at h
          · exact aeqFs_run hT hx hy heq fs r (by simpa using hn.2) h
          · cases h; simp
        · cases h
      · cases h
    · cases h

theorem aeqIn_run (hT : TabOK P T) {n : Dom} : ∀ (k : Nat) (t : TypeId) (x y : Value) (r : Bool) (x' y' : Value), aeqIn T k t x y = some r → VR E n x x' → VR E n y y' → ∀ d, k ≤ d → (Op.equalIn d t x' y').run P w = .ok r w := by
  intro k
  induction k with
  | zero => intro t x y r x' y' h; cases h
  | succ k ih =>
    intro t x y r x' y' h hx hy d hd
    obtain ⟨d, rfl⟩ : ∃ d', d = d' + 1 := ⟨d - 1, by omega⟩
    simp only [aeqIn] at h
    split at h
    · rename_i i hi
      split at h
      · rename_i k0 k1 a k2 b hdesc
        split at h
        · rename_i hk
          subst hk
          cases h
          have e1 := hx.int; have e2 := hy.int; subst e1 e2
          simp only [Op.equalIn, Sem.run_bind, run_und hT hi hdesc rfl, Result.andThen_ok, if_true, Sem.run_pure, hT.prim, Prim.real]
          congr 1
        · cases h
      · rename_i a b hdesc
        cases h
        have e1 := hx.string; have e2 := hy.string; subst e1 e2
        simp only [Op.equalIn, Sem.run_bind, run_und hT hi hdesc rfl, Result.andThen_ok, Sem.run_pure, hT.prim, Prim.real, beqL_bytes]
      · rename_i fs xs ys hdesc
        split at h
        · rename_i heqs
          have hf := hT.eqs t i hi heqs
          simp only [eqFine, Bool.and_eq_true, Bool.not_eq_true'] at hf
          obtain ⟨xs', rfl, hpx⟩ := hx.aggp
          obtain ⟨ys', rfl, hpy⟩ := hy.aggp
          obtain ⟨⟨dd, g1, g2⟩, _⟩ := hT.ty t i hi
          rw [hdesc] at g2
          cases dd <;> simp only [strip] at g2 <;> try cases g2
          rename_i fs'
          have hfo : P.fieldsOf t = fs' := by simp [Program.fieldsOf, g1]
          rw [run_equalIn_struct w d t xs' ys' (by rw [hfo]; exact g1) hf.1.2, hfo]
          rw [hfo] at hf
          refine aeqFs_run hT hpx.pl hpy.pl (fun t a b r a' b' h1 h2 h3 => ih t a b r a' b' h1 h2 h3 d (by omega)) _ _ hf.1.1 ?_
          simpa using h
        · cases h
      · exact (aeq_run (w := w) hT hi h hx hy).1 d
    · cases h

theorem bin_eql {t : TypeId} {x y : Value} (h1 : ∀ k a k' b, ¬ (x = .int k a ∧ y = .int k' b)) (h2 : ∀ k a k' b, ¬ (x = .float k a ∧ y = .float k' b)) (h3 : ∀ k a c k' b d, ¬ (x = .complex k a c ∧ y = .complex k' b d)) (h4 : ∀ a b, ¬ (x = .string a ∧ y = .string b)) :
    binOp .eql t x y = (do pure (.bool (← Op.equal t x y))) ∧ binOp .neq t x y = (do pure (.bool (!(← Op.equal t x y)))) := by
  constructor <;> (cases x <;> cases y <;> first
    | rfl
    | (exact absurd ⟨rfl, rfl⟩ (h1 _ _ _ _))
    | (exact absurd ⟨rfl, rfl⟩ (h2 _ _ _ _))
    | (exact absurd ⟨rfl, rfl⟩ (h3 _ _ _ _ _ _))
    | (exact absurd ⟨rfl, rfl⟩ (h4 _ _)))

theorem abin_sound (hT : TabOK P T) (hR : R T.ng E H w) {op : BinOp} {t : TypeId} {x y : Operand} {a b a' b' v : Value} (ha : VR E H.dom a a') (hb : VR E H.dom b b') (h : abin T op t a b = some v) :
    DoesV P T.ng E H w (do eqGuard op t x y a' b'; binOp op t a' b') v H := by
  have int : ∀ k n k' n', a = .int k n → b = .int k' n' → ∀ u, (binOp op t (.int k n) (.int k' n')).run P w = .ok u w → flat u = true → DoesV P T.ng E H w (do eqGuard op t x y a' b'; binOp op t a' b') u H := by
    intro k n k' n' e1 e2 u hu hf
    subst e1 e2
    have e1 := ha.int; have e2 := hb.int; subst e1 e2
    refine .here hR (v' := u) ?_ (.same hf)
    rw [Sem.run_bind, guard_run (by simp) (by simp)]
    exact hu
  have hp := hT.prim
  unfold abin at h
  rw [hp] at h
  split at h
  · rename_i k n k' n'
    split at h
    · split at h
      · cases h
      · rename_i hy; cases h; exact int _ _ _ _ rfl rfl _ (binSh_run _ (.inl rfl) _ _ _ _ _ (of_decide_eq_false hy)) rfl
    · split at h
      · cases h
      · rename_i hy; cases h; exact int _ _ _ _ rfl rfl _ (binSh_run _ (.inr rfl) _ _ _ _ _ (of_decide_eq_false hy)) rfl
    · split at h
      · rename_i hk
        subst hk
        obtain ⟨g1, g2⟩ := binInt_run (P := P) (w := w) _ t _ _ _ _ h
        exact int _ _ _ _ rfl rfl _ g1 g2
      · cases h
  · rename_i s s'
    have e1 := ha.string; have e2 := hb.string; subst e1 e2
    refine .here hR (v' := v) ?_ (.same ?_)
    · rw [Sem.run_bind, guard_run (by simp) (by simp)]
      exact binStr_run _ _ _ _ _ h
    · cases op <;> simp only [abinStr] at h <;> try cases h
      all_goals first
        | rfl
        | (split at h <;> cases h; rfl)
  · rename_i xs ys
    obtain ⟨xs', rfl, hpx⟩ := ha.aggp
    obtain ⟨ys', rfl, hpy⟩ := hb.aggp
    split at h
    · rename_i i hi
      split at h
      · rename_i heqs
        have hf := hT.eqs t i hi heqs
        simp only [eqFine, Bool.and_eq_true, Bool.not_eq_true'] at hf
        have hg : ∀ op', op' = op → (eqGuard op' t x y (.agg xs') (.agg ys')).run P w = .ok () w := by
          intro op' _
          cases op' <;> simp [eqGuard, run_program, hf.2]
        split at h
        · split at h
          · rename_i r hr
            cases h
            have := aeqIn_run (w := w) hT 8 t _ _ _ _ _ hr ha hb Op.maxDepth (by simp [Op.maxDepth])
            refine .here hR (v' := .bool r) ?_ (.same rfl)
            rw [Sem.run_bind, hg _ rfl]
            simp only [Result.andThen, binOp, Sem.run_bind, Op.equal, this, Sem.run_pure]
          · cases h
        · split at h
          · rename_i r hr
            cases h
            have := aeqIn_run (w := w) hT 8 t _ _ _ _ _ hr ha hb Op.maxDepth (by simp [Op.maxDepth])
            refine .here hR (v' := .bool (!r)) ?_ (.same rfl)
            rw [Sem.run_bind, hg _ rfl]
            simp only [Result.andThen, binOp, Sem.run_bind, Op.equal, this, Sem.run_pure]
          · cases h
        · cases h
      · cases h
    · cases h
  · split at h
    · split at h
      · rename_i i hi
        split at h
        · rename_i r hr
          cases h
          obtain ⟨h1, h2, h3, h4, h5, h6, h7⟩ := aeq_run (w := w) hT hi hr ha hb
          refine .here hR (v' := .bool r) ?_ (.same rfl)
          rw [Sem.run_bind, guard_run h2 h3]
          simp only [Result.andThen, (bin_eql h4 h5 h6 h7).1, Sem.run_bind, Op.equal, Op.maxDepth, h1 9999, Sem.run_pure]
        · cases h
      · cases h
    · split at h
      · rename_i i hi
        split at h
        · rename_i r hr
          cases h
          obtain ⟨h1, h2, h3, h4, h5, h6, h7⟩ := aeq_run (w := w) hT hi hr ha hb
          refine .here hR (v' := .bool (!r)) ?_ (.same rfl)
          rw [Sem.run_bind, guard_run h2 h3]
          simp only [Result.andThen, (bin_eql h4 h5 h6 h7).2, Sem.run_bind, Op.equal, Op.maxDepth, h1 9999, Sem.run_pure]
        · cases h
      · cases h
    · cases h

theorem aun_sound (hT : TabOK P T) (hR : R T.ng E H w) {op : UnOp} {a a' v : Value} (ha : VR E H.dom a a') (h : aun T.p op a = some v) : DoesV P T.ng E H w (Op.unary op a') v H := by
  rw [hT.prim] at h
  unfold aun at h
  split at h
  · have e := ha.int; subst e; cases h
    exact .here hR (by simp [Op.unary, Op.intArith, Prim.real, realAr]) (.same rfl)
  · have e := ha.int; subst e; cases h
    exact .here hR (by simp [Op.unary, Op.intBits, Prim.real, realAr, realBits]) (.same rfl)
  · have e := ha.bool; subst e; cases h
    exact .here hR (by simp [Op.unary]) (.same rfl)
  · cases h
end
end Go.Ab
