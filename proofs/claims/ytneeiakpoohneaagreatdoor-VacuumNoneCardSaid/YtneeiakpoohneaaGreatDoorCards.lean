/-
  DERIVED. GIVEN WITH THE SEED: THE CARDS: each row of YtneeiakpoohneaaGreatDoorRows.lean that lists a variable, with what it lists TIED to the program's text (the seventh form; the later family's looks); each row that meets fmt, with fmt's text TOLD by the authors' own Lean function (tested against real Go, not proved from fmt's source: count such statements apart). THE CARD IS WHAT COUNTS. Prove the row's statement (the work); the ties are given (YtneeiakpoohneaaGreatDoorTie.lean); close each card by the builder's one call (the guide's Derived/Test/ToyasCard.lean, 'card_holds'). Laid BY PROGRAM, IN A SANDBOX (cutbox-door.mjs). By AI agents, Wed Nov 11 2026. No macro, syntax, notation, axiom, sorry.
-/
import Derived.Test.YtneeiakpoohneaaGreatDoorRows
import GoSem.ClaimSeven
namespace Go.Proofs.YtneeiakpoohneaaGreatDoor
namespace Rows

/-- THE TIED CARD OF 'hachurelaw23.CatalogFull'. -/
def catalogFullCard : Claim7 := { stood := { row := catalogFullRow, standIns := [], harness := (true, "a4b52c344925df7c9152d2317ec8022d37e2688a831fde433006c0dd42417e0e"), looks := false }, kinds := [], alts := [], laidByText := true, laidKinds := [.data], laidTests := true, laidLooks := .later }
def CatalogFullCardSaid : Prop := Claim7.holds Tryz.pinned (.plain (OpenSpec.ofChange catalogFullSpec)) catalogFullCard

/-- THE TIED CARD OF 'hachurelaw28.VacuumNone'. -/
def vacuumNoneCard : Claim7 := { stood := { row := vacuumNoneRow, standIns := [], harness := (true, "a4b52c344925df7c9152d2317ec8022d37e2688a831fde433006c0dd42417e0e"), looks := false }, kinds := [], alts := [], laidByText := true, laidKinds := [.data], laidTests := true, laidLooks := .later }
def VacuumNoneCardSaid : Prop := Claim7.holds Tryz.pinned (.plain (OpenSpec.ofChange vacuumNoneSpec)) vacuumNoneCard

/-- THE TIED CARD OF 'hachurelaw20.RtreeNone'. -/
def rtreeNoneCard : Claim7 := { stood := { row := rtreeNoneRow, standIns := [], harness := (true, "a4b52c344925df7c9152d2317ec8022d37e2688a831fde433006c0dd42417e0e"), looks := false }, kinds := [], alts := [], laidByText := true, laidKinds := [.data], laidTests := true, laidLooks := .later }
def RtreeNoneCardSaid : Prop := Claim7.holds Tryz.pinned (.plain (OpenSpec.ofChange rtreeNoneSpec)) rtreeNoneCard

/-- THE SECOND FORM's CARD OF 'hachurelaw23.CatalogFull'. -/
def catalogFullUptoCard : Claim7 := { stood := { row := catalogFullUptoRow, standIns := [], harness := (true, "a4b52c344925df7c9152d2317ec8022d37e2688a831fde433006c0dd42417e0e"), looks := false }, kinds := [], alts := [], laidByText := true, laidKinds := [.data], laidTests := true, laidLooks := .later }
def CatalogFullUptoCardSaid : Prop := Claim7.holds Tryz.pinned (.plain (OpenSpec.upto catalogFullSpec)) catalogFullUptoCard

/-- THE SECOND FORM's CARD OF 'hachurelaw28.VacuumNone'. -/
def vacuumNoneUptoCard : Claim7 := { stood := { row := vacuumNoneUptoRow, standIns := [], harness := (true, "a4b52c344925df7c9152d2317ec8022d37e2688a831fde433006c0dd42417e0e"), looks := false }, kinds := [], alts := [], laidByText := true, laidKinds := [.data], laidTests := true, laidLooks := .later }
def VacuumNoneUptoCardSaid : Prop := Claim7.holds Tryz.pinned (.plain (OpenSpec.upto vacuumNoneSpec)) vacuumNoneUptoCard

/-- THE SECOND FORM's CARD OF 'hachurelaw20.RtreeNone'. -/
def rtreeNoneUptoCard : Claim7 := { stood := { row := rtreeNoneUptoRow, standIns := [], harness := (true, "a4b52c344925df7c9152d2317ec8022d37e2688a831fde433006c0dd42417e0e"), looks := false }, kinds := [], alts := [], laidByText := true, laidKinds := [.data], laidTests := true, laidLooks := .later }
def RtreeNoneUptoCardSaid : Prop := Claim7.holds Tryz.pinned (.plain (OpenSpec.upto rtreeNoneSpec)) rtreeNoneUptoCard
end Rows
end Go.Proofs.YtneeiakpoohneaaGreatDoor
