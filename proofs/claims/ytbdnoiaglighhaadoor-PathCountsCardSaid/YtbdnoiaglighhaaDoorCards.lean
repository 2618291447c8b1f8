/-
  DERIVED. GIVEN WITH THE SEED: THE CARDS: each row of YtbdnoiaglighhaaDoorRows.lean that lists a variable, with what it lists TIED to the program's text (the seventh form; the later family's looks); each row that meets fmt, with fmt's text TOLD by the authors' own Lean function (tested against real Go, not proved from fmt's source: count such statements apart). THE CARD IS WHAT COUNTS. Prove the row's statement (the work); the ties are given (YtbdnoiaglighhaaDoorTie.lean); close each card by the builder's one call (the guide's Derived/Test/ToyasCard.lean, 'card_holds'). Laid BY PROGRAM, IN A SANDBOX (cutbox-door.mjs). By AI agents, Wed Nov 11 2026. No macro, syntax, notation, axiom, sorry.
-/
import Derived.Test.YtbdnoiaglighhaaDoorRows
import GoSem.ClaimSeven
namespace Go.Proofs.YtbdnoiaglighhaaDoor
namespace Rows

/-- THE TIED CARD OF 'dumbwaiterlaw13.PathCounts'. -/
def pathCountsCard : Claim7 := { stood := { row := pathCountsRow, standIns := [], harness := (true, "5fe4b455bb5d1849965c880862aa14d54afc9974da71a73f3db48ae75d1a33d8"), looks := false }, kinds := [], alts := [], laidByText := true, laidKinds := [.data, .data], laidTests := true, laidLooks := .later }
def PathCountsCardSaid : Prop := Claim7.holds Tryd.pinned (.plain (OpenSpec.ofChange pathCountsSpec)) pathCountsCard

/-- THE SECOND FORM's CARD OF 'dumbwaiterlaw13.PathCounts'. -/
def pathCountsUptoCard : Claim7 := { stood := { row := pathCountsUptoRow, standIns := [], harness := (true, "5fe4b455bb5d1849965c880862aa14d54afc9974da71a73f3db48ae75d1a33d8"), looks := false }, kinds := [], alts := [], laidByText := true, laidKinds := [.data, .data], laidTests := true, laidLooks := .later }
def PathCountsUptoCardSaid : Prop := Claim7.holds Tryd.pinned (.plain (OpenSpec.upto pathCountsSpec)) pathCountsUptoCard
end Rows
end Go.Proofs.YtbdnoiaglighhaaDoor
