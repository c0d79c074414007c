/- The engine, part 21: functions without a body, as rows of an oracle. -/
import Derived.Test.YtklebhffmnmeoaaDoorEq
import Derived.Lib.Bytealg
namespace Go.Ab
open Go

abbrev SemF := List Value → AHeap → Option (Value × AHeap)
def xNone : CallF := fun _ _ _ => none
def xCons (f : Nat) (s : SemF) (r : CallF) : CallF := fun g args H => match Nat.beq g f with | true => s args H | false => r g args H
def SOK (P : Program) (ng f : Nat) (s : SemF) : Prop := ∀ args H v H', s args H = some (v, H') → ACalls P ng f args H fun v1 H1 => v1 = v ∧ H1 = H'
theorem xNone_ok {P : Program} {ng : Nat} : XOK P ng xNone := fun _ _ _ _ _ h => by cases h
theorem xCons_ok {P : Program} {ng f : Nat} {s : SemF} {r : CallF} (h1 : SOK P ng f s) (h2 : XOK P ng r) : XOK P ng (xCons f s r) := fun g args H v H' h => by
  unfold xCons at h
  split at h
  · rename_i e
    have e := Nat.eq_of_beq_eq_true e
    subst e
    exact h1 _ _ _ _ h
  · exact h2 _ _ _ _ _ h

/-- A function without a body. -/
structure Bare (P : Program) (f : Nat) (fn : Func) : Prop where
  at_ : P.funcs[f]? = some fn
  name : (fn.name == "runtime.NumGoroutine") = false
  body : fn.body.isNone = true
  next : Extern.findNext fn = none

def sCount : SemF
  | [.string s, .int .u8 c], H => some (.int .i64 (Lib.countByte s.data.toList c.toNat.toUInt8), H)
  | _, _ => none
def sIndexByte : SemF
  | [.string s, .int .u8 c], H => some (.int .i64 (Lib.indexByte s.data.toList c.toNat.toUInt8), H)
  | _, _ => none
def sAdd (k : IntKind) : SemF
  | [.pointer (some ⟨b, o, none⟩), .int k' d], H => match H[b]? with
    | some (.var ty c) => match c[o]? with
      | some (.int k2 n) => if k' = k then (if k2 = k then some (.int k (k.wrap (n + d)), H.set b (.var ty (c.set o (.int k (k.wrap (n + d)))))) else none) else none
      | _ => none
    | _ => none
  | _, _ => none
def sLoad (k : IntKind) : SemF
  | [.pointer (some ⟨b, o, none⟩)], H => match H[b]? with
    | some (.var _ c) => match c[o]? with
      | some (.int k2 n) => if k2 = k then some (.int k n, H) else none
      | _ => none
    | _ => none
  | _, _ => none
def sStore : SemF
  | [.pointer (some ⟨b, o, none⟩), .int k d], H => match H[b]? with
    | some (.var ty c) => match c[o]? with
      | some (.int k2 _) => if k2 = k then some (.tuple #[], H.set b (.var ty (c.set o (.int k d)))) else none
      | _ => none
    | _ => none
  | _, _ => none

section
variable {P : Program} {ng f : Nat} {fn : Func}
theorem sCount_ok (hb : Bare P f fn) (he : Extern.find fn = some Extern.BytealgCount.count) : SOK P ng f sCount := fun args H v H' h => by
  unfold sCount at h
  split at h
  · rename_i s c
    cases h
    refine ⟨fun E w args' hR hpl => .inr ?_⟩
    obtain ⟨a', b', rfl, ha, hb'⟩ := args2 hpl
    have e1 := ha.string; have e2 := hb'.int; subst e1 e2
    refine ⟨_, w, ?_, E, _, H, ⟨rfl, rfl⟩, Dom.le_refl _, .same rfl, hR, .refl _ _ _ _⟩
    rw [run_callFunc_extern hb.at_ hb.name hb.body hb.next he, Lib.run_countString]
    rfl
  · cases h
theorem sIndexByte_ok (hb : Bare P f fn) (he : Extern.find fn = some Extern.BytealgIndexByte.indexByte) : SOK P ng f sIndexByte := fun args H v H' h => by
  unfold sIndexByte at h
  split at h
  · rename_i s c
    cases h
    refine ⟨fun E w args' hR hpl => .inr ?_⟩
    obtain ⟨a', b', rfl, ha, hb'⟩ := args2 hpl
    have e1 := ha.string; have e2 := hb'.int; subst e1 e2
    refine ⟨_, w, ?_, E, _, H, ⟨rfl, rfl⟩, Dom.le_refl _, .same rfl, hR, .refl _ _ _ _⟩
    rw [run_callFunc_extern hb.at_ hb.name hb.body hb.next he, Lib.run_indexByteString]
    rfl
  · cases h
theorem sAdd_ok {k : IntKind} (hb : Bare P f fn) (he : Extern.find fn = some (Extern.Atomic.update (Op.intArith .add) k true)) : SOK P ng f (sAdd k) := fun args H v H' h => by
  unfold sAdd at h
  split at h
  · split at h
    · rename_i hH
      split at h
      · rename_i hc
        split at h
        · rename_i e1
          split at h
          · rename_i e2
            subst e1 e2
            cases h
            exact ACalls.atomicAdd hb.at_ hb.name hb.body hb.next he hH hc ⟨rfl, rfl⟩
          · cases h
        · cases h
      · cases h
    · cases h
  · cases h
theorem sLoad_ok {k : IntKind} (hb : Bare P f fn) (he : Extern.find fn = some (Extern.Atomic.loadT (.int k))) : SOK P ng f (sLoad k) := fun args H v H' h => by
  unfold sLoad at h
  split at h
  · split at h
    · rename_i hH
      split at h
      · rename_i hc
        split at h
        · rename_i e2
          subst e2
          cases h
          exact ACalls.atomicLoad hb.at_ hb.name hb.body hb.next he hH hc ⟨rfl, rfl⟩
        · cases h
      · cases h
    · cases h
  · cases h
theorem sStore_ok (hb : Bare P f fn) (he : Extern.find fn = some Extern.Atomic.storeT) : SOK P ng f sStore := fun args H v H' h => by
  unfold sStore at h
  split at h
  · split at h
    · rename_i hH
      split at h
      · rename_i hc
        split at h
        · rename_i e2
          subst e2
          cases h
          exact ACalls.atomicStore hb.at_ hb.name hb.body hb.next he hH hc ⟨rfl, rfl⟩
        · cases h
      · cases h
    · cases h
  · cases h
end
end Go.Ab
