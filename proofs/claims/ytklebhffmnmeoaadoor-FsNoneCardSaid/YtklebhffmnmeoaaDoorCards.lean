/-
  DERIVED. GIVEN WITH THE SEED: THE CARDS: each row of YtklebhffmnmeoaaDoorRows.lean that lists a variable, with what it lists TIED to the program's text (the seventh form; the later family's looks); each row that meets fmt, with fmt's text TOLD by the authors' own Lean function (tested against real Go, not proved from fmt's source: count such statements apart). THE CARD IS WHAT COUNTS. Prove the row's statement (the work); the ties are given (YtklebhffmnmeoaaDoorTie.lean); close each card by the builder's one call (the guide's Derived/Test/ToyasCard.lean, 'card_holds'). Laid BY PROGRAM, IN A SANDBOX (cutbox-door.mjs). By AI agents, Wed Nov 11 2026. No macro, syntax, notation, axiom, sorry.
-/
import Derived.Test.YtklebhffmnmeoaaDoorRows
import GoSem.ClaimSeven
namespace Go.Proofs.YtklebhffmnmeoaaDoor
namespace Rows

/-- THE TIED CARD OF 'lanyardlaw02.FsOwn'. -/
def fsOwnCard : Claim7 := { stood := { row := fsOwnRow, standIns := [], harness := (true, "c8504e23b8289fbc8224eae8146e34596d3452101a403cd84dd7ed5bdf7afa43"), looks := false }, kinds := [], alts := [], laidByText := true, laidKinds := [.data, .pinned], laidTests := true, laidLooks := .later }
def FsOwnCardSaid : Prop := Claim7.holds Tryd.pinned (.plain (OpenSpec.ofChange fsOwnSpec)) fsOwnCard

/-- THE TIED CARD OF 'lanyardlaw02.FsNone'. -/
def fsNoneCard : Claim7 := { stood := { row := fsNoneRow, standIns := [], harness := (true, "c8504e23b8289fbc8224eae8146e34596d3452101a403cd84dd7ed5bdf7afa43"), looks := false }, kinds := [], alts := [], laidByText := true, laidKinds := [.data, .pinned], laidTests := true, laidLooks := .later }
def FsNoneCardSaid : Prop := Claim7.holds Tryd.pinned (.plain (OpenSpec.ofChange fsNoneSpec)) fsNoneCard

/-- THE SECOND FORM's CARD OF 'lanyardlaw02.FsOwn'. -/
def fsOwnUptoCard : Claim7 := { stood := { row := fsOwnUptoRow, standIns := [], harness := (true, "c8504e23b8289fbc8224eae8146e34596d3452101a403cd84dd7ed5bdf7afa43"), looks := false }, kinds := [], alts := [], laidByText := true, laidKinds := [.data, .pinned], laidTests := true, laidLooks := .later }
def FsOwnUptoCardSaid : Prop := Claim7.holds Tryd.pinned (.plain (OpenSpec.upto fsOwnSpec)) fsOwnUptoCard

/-- THE SECOND FORM's CARD OF 'lanyardlaw02.FsNone'. -/
def fsNoneUptoCard : Claim7 := { stood := { row := fsNoneUptoRow, standIns := [], harness := (true, "c8504e23b8289fbc8224eae8146e34596d3452101a403cd84dd7ed5bdf7afa43"), looks := false }, kinds := [], alts := [], laidByText := true, laidKinds := [.data, .pinned], laidTests := true, laidLooks := .later }
def FsNoneUptoCardSaid : Prop := Claim7.holds Tryd.pinned (.plain (OpenSpec.upto fsNoneSpec)) fsNoneUptoCard
end Rows
end Go.Proofs.YtklebhffmnmeoaaDoor
