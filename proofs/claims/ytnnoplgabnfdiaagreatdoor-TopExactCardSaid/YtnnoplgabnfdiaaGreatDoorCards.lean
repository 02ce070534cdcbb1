/-
  DERIVED. GIVEN WITH THE SEED: THE CARDS: each row of YtnnoplgabnfdiaaGreatDoorRows.lean that lists a variable, with what it lists TIED to the program's text (the seventh form; the later family's looks); each row that meets fmt, with fmt's text TOLD by the authors' own Lean function (tested against real Go, not proved from fmt's source: count such statements apart). THE CARD IS WHAT COUNTS. Prove the row's statement (the work); the ties are given (YtnnoplgabnfdiaaGreatDoorTie.lean); close each card by the builder's one call (the guide's Derived/Test/ToyasCard.lean, 'card_holds'). Laid BY PROGRAM, IN A SANDBOX (cutbox-door.mjs). By AI agents, Wed Nov 11 2026. No macro, syntax, notation, axiom, sorry.
-/
import Derived.Test.YtnnoplgabnfdiaaGreatDoorRows
import GoSem.ClaimSeven
namespace Go.Proofs.YtnnoplgabnfdiaaGreatDoor
namespace Rows

/-- THE TIED CARD OF 'quittancetop.TopBooks'. -/
def topBooksCard : Claim7 := { stood := { row := topBooksRow, standIns := [], harness := (true, "caeebf6526edc4ae4ac629fabc697ad0e486d4d5cf093f78a72a4a78a99ca1c7"), looks := true }, kinds := [], alts := [], laidByText := true, laidKinds := [.data, .data, .data], laidTests := true, laidLooks := .later }
def TopBooksCardSaid : Prop := Claim7.holds Tryz.pinned (.plain (OpenSpec.ofChange topBooksSpec)) topBooksCard

/-- THE TIED CARD OF 'quittancetop.TopSchedules'. -/
def topSchedulesCard : Claim7 := { stood := { row := topSchedulesRow, standIns := [], harness := (true, "caeebf6526edc4ae4ac629fabc697ad0e486d4d5cf093f78a72a4a78a99ca1c7"), looks := true }, kinds := [], alts := [], laidByText := true, laidKinds := [.data, .data, .data], laidTests := true, laidLooks := .later }
def TopSchedulesCardSaid : Prop := Claim7.holds Tryz.pinned (.plain (OpenSpec.ofChange topSchedulesSpec)) topSchedulesCard

/-- THE TIED CARD OF 'quittancetop.TopExact'. -/
def topExactCard : Claim7 := { stood := { row := topExactRow, standIns := [], harness := (true, "caeebf6526edc4ae4ac629fabc697ad0e486d4d5cf093f78a72a4a78a99ca1c7"), looks := true }, kinds := [], alts := [], laidByText := true, laidKinds := [.data, .data, .data], laidTests := true, laidLooks := .later }
def TopExactCardSaid : Prop := Claim7.holds Tryz.pinned (.plain (OpenSpec.ofChange topExactSpec)) topExactCard

/-- THE SECOND FORM's CARD OF 'quittancetop.TopBooks'. -/
def topBooksUptoCard : Claim7 := { stood := { row := topBooksUptoRow, standIns := [], harness := (true, "caeebf6526edc4ae4ac629fabc697ad0e486d4d5cf093f78a72a4a78a99ca1c7"), looks := true }, kinds := [], alts := [], laidByText := true, laidKinds := [.data, .data, .data], laidTests := true, laidLooks := .later }
def TopBooksUptoCardSaid : Prop := Claim7.holds Tryz.pinned (.plain (OpenSpec.upto topBooksSpec)) topBooksUptoCard

/-- THE SECOND FORM's CARD OF 'quittancetop.TopSchedules'. -/
def topSchedulesUptoCard : Claim7 := { stood := { row := topSchedulesUptoRow, standIns := [], harness := (true, "caeebf6526edc4ae4ac629fabc697ad0e486d4d5cf093f78a72a4a78a99ca1c7"), looks := true }, kinds := [], alts := [], laidByText := true, laidKinds := [.data, .data, .data], laidTests := true, laidLooks := .later }
def TopSchedulesUptoCardSaid : Prop := Claim7.holds Tryz.pinned (.plain (OpenSpec.upto topSchedulesSpec)) topSchedulesUptoCard

/-- THE SECOND FORM's CARD OF 'quittancetop.TopExact'. -/
def topExactUptoCard : Claim7 := { stood := { row := topExactUptoRow, standIns := [], harness := (true, "caeebf6526edc4ae4ac629fabc697ad0e486d4d5cf093f78a72a4a78a99ca1c7"), looks := true }, kinds := [], alts := [], laidByText := true, laidKinds := [.data, .data, .data], laidTests := true, laidLooks := .later }
def TopExactUptoCardSaid : Prop := Claim7.holds Tryz.pinned (.plain (OpenSpec.upto topExactSpec)) topExactUptoCard
end Rows
end Go.Proofs.YtnnoplgabnfdiaaGreatDoor
