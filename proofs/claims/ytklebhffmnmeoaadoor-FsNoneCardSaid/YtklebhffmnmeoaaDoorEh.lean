/- The engine, part 8: slicing, indexing, lengths, min, max, maps. -/
import Derived.Test.YtklebhffmnmeoaaDoorEg
import Derived.Maps.Keyed
namespace Go.Ab
open Go

section
variable {P : Program} {T : Tab} {E : Emb} {H : AHeap} {w : World}

theorem VR.opt {n : Dom} {x x' : Option Value} (h : ∀ v, x = some v → ∃ v', x' = some v' ∧ VR E n v v') (h0 : x = none → x' = none) :
    (x = none ∧ x' = none) ∨ ∃ v v', x = some v ∧ x' = some v' ∧ VR E n v v' := by
  cases x with
  | none => exact .inl ⟨rfl, h0 rfl⟩
  | some v => obtain ⟨v', h1, h2⟩ := h v rfl; exact .inr ⟨v, v', rfl, h1, h2⟩

/-- Optional operands. -/
def VO (E : Emb) (n : Dom) (x x' : Option Value) : Prop := (x = none ∧ x' = none) ∨ ∃ v v', x = some v ∧ x' = some v' ∧ VR E n v v'

theorem bound_run (k : IntKind) (i : Int) (y : Nat) (c : BoundsCode) (h0 : 0 ≤ i) (h1 : i ≤ y) (w : World) : (Instr.sliceBound (.int k i) y c).run P w = .ok i.toNat w := by
  simp [Instr.sliceBound, asIntOf, h0, h1]

theorem abound_sound {n : Dom} {x x' : Option Value} {d top h : Int} (hx : VO E n x x') (hb : abound Prim.real x d top = some h) : (x = none ∧ x' = none ∧ h = d) ∨ ∃ k, x' = some (.int k h) ∧ 0 ≤ h ∧ h ≤ top := by
  unfold abound at hb
  rcases hx with ⟨rfl, rfl⟩ | ⟨y, y', rfl, rfl, hy⟩
  · cases hb; exact .inl ⟨rfl, rfl, rfl⟩
  · split at hb
    · rename_i e; cases e
    · rename_i k i he
      cases he
      have e := hy.int; subst e
      split at hb
      · rename_i h0
        split at hb
        · rename_i h1
          cases hb
          exact .inr ⟨k, rfl, of_decide_eq_true h0, of_decide_eq_true h1⟩
        · cases hb
      · cases hb
    · cases hb

theorem asub_sound {n : Dom} {b : Bool} {len cap' : Nat} {l h : Int} {lo hi lo' hi' : Option Value} (hlo : VO E n lo lo') (hhi : VO E n hi hi') (hc : len ≤ cap') (hs : asub Prim.real (Int.ofNat len) (Int.ofNat len) lo hi = some (l, h)) (w : World) :
    (Instr.sliceBounds b len cap' lo' hi' none).run P w = .ok (l.toNat, h.toNat, cap') w ∧ 0 ≤ l ∧ l ≤ h ∧ h ≤ len := by
  unfold asub at hs
  split at hs
  · rename_i h0 hsh
    split at hs
    · rename_i l0 hsl
      cases hs
      rcases abound_sound hhi hsh with ⟨rfl, rfl, rfl⟩ | ⟨k, rfl, g1, g2⟩ <;> rcases abound_sound hlo hsl with ⟨rfl, rfl, rfl⟩ | ⟨k', rfl, g3, g4⟩
      · exact ⟨by simp [Instr.sliceBounds], by omega, by simp, by simp⟩
      · refine ⟨?_, g3, g4, by simp⟩
        simp [Instr.sliceBounds, bound_run k' l len _ g3 (by simpa using g4)]
      · refine ⟨?_, by omega, g1, by simpa using g2⟩
        have : h ≤ cap' := by simp at g2; omega
        simp [Instr.sliceBounds, bound_run k h cap' _ g1 this]
      · refine ⟨?_, g3, g4, by simpa using g2⟩
        have : h ≤ cap' := by simp at g2; omega
        simp [Instr.sliceBounds, bound_run k h cap' _ g1 this, bound_run k' l h.toNat _ g3 (by omega)]
    · cases hs
  · cases hs

theorem inR_real {n : Int} {top : Nat} (h : inR Prim.real n (Int.ofNat top) = true) : 0 ≤ n ∧ n < top := by
  unfold inR at h
  split at h
  · rename_i h0; exact ⟨of_decide_eq_true h0, of_decide_eq_true h⟩
  · cases h

theorem sub_eq (s : ByteArray) (l h : Int) : Prim.real.sub s l h = s.extract l.toNat h.toNat := by
  simp only [Prim.real]
  apply ByteArray.ext
  rw [ByteArray.data_extract]
  apply Array.ext'
  simp [Array.toList_extract, List.extract_eq_take_drop]

theorem aslice_sound (hT : TabOK P T) (hR : R T.ng E H w) {t : TypeId} {x x' v : Value} {lo hi lo' hi' : Option Value} (hx : VR E H.dom x x') (hlo : VO E H.dom lo lo') (hhi : VO E H.dom hi hi')
    (h : aslice T H t x lo hi = some v) : DoesV P T.ng E H w (Instr.sliceAt t x' lo' hi' none) v H := by
  unfold aslice at h
  rw [hT.prim] at h
  split at h
  · rename_i i hi0
    split at h
    · rename_i s hd
      split at h
      · rename_i l h0 hs
        cases h
        have e := hx.string; subst e
        obtain ⟨h1, h2, h3, h4⟩ := asub_sound (P := P) (b := false) (len := s.size) hlo hhi (Nat.le_refl _) hs w
        refine .here hR (v' := .string (s.extract l.toNat h0.toNat)) ?_ (by rw [sub_eq]; exact .same rfl)
        simp [Instr.sliceAt, Instr.slice, run_und hT hi0 hd rfl, h1]
      · cases h
    · rename_i e len cap hd
      obtain ⟨e1, rfl, rfl⟩ := hx.nilSlice
      subst e1
      split at h
      · rename_i lh hs
        split at h
        · rename_i j hj
          cases h
          obtain ⟨l, h0⟩ := lh
          obtain ⟨h1, h2, h3, h4⟩ := asub_sound (P := P) (b := true) hlo hhi (Nat.le_refl _) hs w
          refine .here hR (v' := .slice none (h0.toNat - l.toNat) (0 - l.toNat)) ?_ (by rw [show h0.toNat - l.toNat = 0 by omega, show 0 - l.toNat = 0 by omega]; exact .same rfl)
          simp [Instr.sliceAt, Instr.slice, run_und hT hi0 hd rfl, h1, run_size hT hj]
        · cases h
      · cases h
    · rename_i e b o len cap hd
      split at h
      · rename_i l h0 hs
        split at h
        · rename_i j hj
          obtain ⟨o', c', hb, rfl, g0, g1, g2, g3⟩ := hx.slicep
          obtain ⟨h1, h2, h3, h4⟩ := asub_sound (P := P) (b := true) hlo hhi (Nat.le_trans g0 g2) hs w
          have hrun : (Instr.sliceAt t (.slice (some ⟨(E b).blk, o', none⟩) len c') lo' hi' none).run P w =
              .ok (.slice (if c' = l.toNat then some ⟨(E b).blk, o', none⟩ else some (Addr.add ⟨(E b).blk, o', none⟩ (l.toNat * j.size))) (h0.toNat - l.toNat) (c' - l.toNat)) w := by
            simp [Instr.sliceAt, Instr.slice, run_und hT hi0 hd rfl, h1, run_size hT hj]
          have hadd : ∀ m, Addr.add ⟨(E b).blk, o', none⟩ m = ⟨(E b).blk, o' + m, none⟩ := fun m => by
            unfold Addr.add; split
            · rename_i e; simp [e]
            · rfl
          have key : ∀ (_ : (E b).esz ≠ 0 → (E b).esz = j.size), VR E H.dom (.slice (some ⟨b, Prim.real.pos o l j.size, none⟩) (Prim.real.diff h0 l) (Prim.real.rest cap l)) (.slice (if c' = l.toNat then some ⟨(E b).blk, o', none⟩ else some (Addr.add ⟨(E b).blk, o', none⟩ (l.toNat * j.size))) (h0.toNat - l.toNat) (c' - l.toNat)) := by
            intro hz
            simp only [Prim.real]
            by_cases hc : c' = l.toNat
            · rw [if_pos hc]
              exact .slice hb (by omega) (fun hlt => by omega) (by omega) (fun hne => by have := g3 hne; rw [hc] at this ⊢; simp; omega)
            · rw [if_neg hc, hadd]
              refine .slice hb (by omega) (fun hlt => ?_) (by omega) (fun hne => ?_)
              · have := g1 (by omega)
                omega
              · have := g3 hne
                have hz' := hz hne
                rw [hz'] at this ⊢
                have : c' * j.size = l.toNat * j.size + (c' - l.toNat) * j.size := by rw [← Nat.add_mul]; congr 1; omega
                omega
          split at h
          · rename_i t0 sz c hH
            split at h
            · rename_i hz
              cases h
              obtain ⟨_, _, _, _, _, h5, _⟩ := hR.obj b _ hH
              exact .here hR hrun (key fun _ => h5.trans hz)
            · cases h
          · rename_i c hH
            cases h
            obtain ⟨_, _, _, _, _, h5⟩ := hR.obj b _ hH
            exact .here hR hrun (key fun hne => absurd h5 hne)
          · rename_i c hH
            cases h
            obtain ⟨_, _, _, _, h5, _⟩ := hR.obj b _ hH
            exact .here hR hrun (key fun hne => absurd h5 hne)
          · cases h
        · cases h
      · cases h
    · rename_i n e b o hd
      split at h
      · rename_i l h0 hs
        split at h
        · rename_i j hj
          obtain ⟨hb, rfl⟩ := hx.pointer
          obtain ⟨h1, h2, h3, h4⟩ := asub_sound (P := P) (b := false) hlo hhi (Nat.le_refl n) hs w
          have hadd : ∀ m, Addr.add ⟨(E b).blk, (E b).sh + o, none⟩ m = ⟨(E b).blk, (E b).sh + o + m, none⟩ := fun m => by
            unfold Addr.add; split
            · rename_i e; simp [e]
            · rfl
          have hrun : (Instr.sliceAt t (.pointer (some ⟨(E b).blk, (E b).sh + o, none⟩)) lo' hi' none).run P w =
              .ok (.slice (some (if n = l.toNat then ⟨(E b).blk, (E b).sh + o, none⟩ else ⟨(E b).blk, (E b).sh + o + l.toNat * j.size, none⟩)) (h0.toNat - l.toNat) (n - l.toNat)) w := by
            simp [Instr.sliceAt, Instr.sureAddr, run_und hT hi0 hd rfl, h1, run_size hT hj, hadd]
          have key : (E b).esz = 0 → VR E H.dom (.slice (some ⟨b, Prim.real.pos o l j.size, none⟩) (Prim.real.diff h0 l) (Prim.real.rest n l)) (.slice (some (if n = l.toNat then ⟨(E b).blk, (E b).sh + o, none⟩ else ⟨(E b).blk, (E b).sh + o + l.toNat * j.size, none⟩)) (h0.toNat - l.toNat) (n - l.toNat)) := by
            intro hz
            simp only [Prim.real]
            by_cases hc : n = l.toNat
            · rw [if_pos hc]
              exact .slice hb (by omega) (fun hlt => by omega) (Nat.le_refl _) (fun hne => absurd hz hne)
            · rw [if_neg hc]
              exact .slice hb (by omega) (fun hlt => by omega) (Nat.le_refl _) (fun hne => absurd hz hne)
          split at h
          · rename_i c hH
            cases h
            obtain ⟨_, _, _, _, _, h5⟩ := hR.obj b _ hH
            exact .here hR hrun (key h5)
          · rename_i c hH
            cases h
            obtain ⟨_, _, _, _, h5, _⟩ := hR.obj b _ hH
            exact .here hR hrun (key h5)
          · cases h
        · cases h
      · cases h
    · cases h
  · cases h

theorem addr_add (b o m : Nat) : Addr.add ⟨b, o, none⟩ m = ⟨b, o + m, none⟩ := by
  unfold Addr.add; split
  · rename_i e; simp [e]
  · rfl

theorem aindexAddr_sound (hT : TabOK P T) (hR : R T.ng E H w) {t : TypeId} {x ix x' ix' v : Value} (hx : VR E H.dom x x') (hi : VR E H.dom ix ix') (h : aindexAddr T t x ix = some v) :
    DoesV P T.ng E H w (Instr.indexAt t x' ix') v H := by
  unfold aindexAddr at h
  rw [hT.prim] at h
  split at h
  · rename_i i hi0
    split at h
    · rename_i e b o len c k n hd
      have e1 := hi.int; subst e1
      split at h
      · rename_i j hj
        split at h
        · rename_i hr
          obtain ⟨h0, h1⟩ := inR_real hr
          cases h
          obtain ⟨o', c', hb, rfl, g0, g1, g2, g3⟩ := hx.slicep
          have ho := g1 (by omega)
          subst ho
          refine .here hR (v' := .pointer (some ⟨(E b).blk, (E b).sh + (o + n.toNat * j.size), none⟩)) ?_ (.ptr hb)
          simp [Instr.indexAt, asIntOf, run_und hT hi0 hd rfl, h0, h1, run_size hT hj, addr_add, Nat.add_assoc]
        · cases h
      · cases h
    · rename_i len e b o k n hd
      have e1 := hi.int; subst e1
      split at h
      · rename_i j hj
        split at h
        · rename_i hr
          obtain ⟨h0, h1⟩ := inR_real hr
          cases h
          obtain ⟨hb, rfl⟩ := hx.pointer
          refine .here hR (v' := .pointer (some ⟨(E b).blk, (E b).sh + (o + n.toNat * j.size), none⟩)) ?_ (.ptr hb)
          simp [Instr.indexAt, Instr.sureAddr, asIntOf, run_und hT hi0 hd rfl, h0, h1, run_size hT hj, addr_add, Nat.add_assoc]
        · cases h
      · cases h
    · cases h
  · cases h

theorem aindex_sound (hT : TabOK P T) (hR : R T.ng E H w) {t : TypeId} {x ix x' ix' v : Value} (hx : VR E H.dom x x') (hi : VR E H.dom ix ix') (h : aindex T t x ix = some v) :
    DoesV P T.ng E H w (Instr.index t x' ix') v H := by
  unfold aindex at h
  rw [hT.prim] at h
  split at h
  · rename_i i hi0
    split at h
    · rename_i s k n hd
      have e1 := hi.int; subst e1
      have e2 := hx.string; subst e2
      split at h
      · rename_i hr
        obtain ⟨h0, h1⟩ := inR_real (top := s.size) hr
        have h1 : n.toNat < s.size := by omega
        cases h
        have hs : s[n.toNat]? = some s[n.toNat] := getElem?_pos s _ h1
        refine .here hR (v' := .int .u8 s[n.toNat].toNat) ?_ ?_
        · simp [Instr.index, asIntOf, run_und hT hi0 hd rfl, h0, hs]
        · have : Prim.real.byte s n = (s[n.toNat].toNat : Int) := by
            have h2 : n.toNat < s.data.size := h1
            simp only [Prim.real]
            rw [List.getD_eq_getElem?_getD, List.getElem?_eq_getElem (by simpa using h2)]
            simp
            rfl
          rw [this]
          exact .same rfl
      · cases h
    · rename_i len e cs k n hd
      have e1 := hi.int; subst e1
      obtain ⟨cs', rfl, hpa⟩ := hx.aggp
      split at h
      · rename_i j hj
        split at h
        · rename_i hr
          obtain ⟨h0, h1⟩ := inR_real hr
          obtain ⟨v', h4, h5⟩ := apart_sound hT w hpa.pl h
          refine .here hR ?_ h5
          simp [Prim.real] at h4
          simp [Instr.index, asIntOf, run_und hT hi0 hd rfl, h0, h1, run_size hT hj, h4]
        · cases h
      · cases h
    · cases h
  · cases h
end
end Go.Ab
