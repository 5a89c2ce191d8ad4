/-
  DERIVED. GIVEN WITH THE SEED: THE CARDS: each row of YtonfljoibcnlgaaGreatDoorRows.lean that lists a variable, with what it lists TIED to the program's text (the seventh form; the later family's looks); each row that meets fmt, with fmt's text TOLD by the authors' own Lean function (tested against real Go, not proved from fmt's source: count such statements apart). THE CARD IS WHAT COUNTS. Prove the row's statement (the work); the ties are given (YtonfljoibcnlgaaGreatDoorTie.lean); close each card by the builder's one call (the guide's Derived/Test/ToyasCard.lean, 'card_holds'). Laid BY PROGRAM, IN A SANDBOX (cutbox-door.mjs). By AI agents, Wed Nov 11 2026. No macro, syntax, notation, axiom, sorry.
-/
import Derived.Test.YtonfljoibcnlgaaGreatDoorRows
import GoSem.ClaimSeven
namespace Go.Proofs.YtonfljoibcnlgaaGreatDoor
namespace Rows

/-- THE TIED CARD OF 'beadrolllaw20.ShardDraws'. -/
def shardDrawsCard : Claim7 := { stood := { row := shardDrawsRow, standIns := [], harness := (true, "5e9f412f1212bc61720c0ae96912b2e2a3af49d40f0d1deeb001c10fd3b9134f"), looks := false }, kinds := [], alts := [], laidByText := true, laidKinds := [.data], laidTests := true, laidLooks := .later }
def ShardDrawsCardSaid : Prop := Claim7.holds Tryz.pinned (.plain (OpenSpec.ofChange shardDrawsSpec)) shardDrawsCard

/-- THE TIED CARD OF 'beadrolllaw21.PoolDoes'. -/
def poolDoesCard : Claim7 := { stood := { row := poolDoesRow, standIns := [], harness := (true, "5e9f412f1212bc61720c0ae96912b2e2a3af49d40f0d1deeb001c10fd3b9134f"), looks := false }, kinds := [], alts := [], laidByText := true, laidKinds := [.data], laidTests := true, laidLooks := .later }
def PoolDoesCardSaid : Prop := Claim7.holds Tryz.pinned (.plain (OpenSpec.ofChange poolDoesSpec)) poolDoesCard

/-- THE TIED CARD OF 'beadrolllaw21.PoolApart'. -/
def poolApartCard : Claim7 := { stood := { row := poolApartRow, standIns := [], harness := (true, "5e9f412f1212bc61720c0ae96912b2e2a3af49d40f0d1deeb001c10fd3b9134f"), looks := false }, kinds := [], alts := [], laidByText := true, laidKinds := [.data], laidTests := true, laidLooks := .later }
def PoolApartCardSaid : Prop := Claim7.holds Tryz.pinned (.plain (OpenSpec.ofChange poolApartSpec)) poolApartCard

/-- THE SECOND FORM's CARD OF 'beadrolllaw20.ShardDraws'. -/
def shardDrawsUptoCard : Claim7 := { stood := { row := shardDrawsUptoRow, standIns := [], harness := (true, "5e9f412f1212bc61720c0ae96912b2e2a3af49d40f0d1deeb001c10fd3b9134f"), looks := false }, kinds := [], alts := [], laidByText := true, laidKinds := [.data], laidTests := true, laidLooks := .later }
def ShardDrawsUptoCardSaid : Prop := Claim7.holds Tryz.pinned (.plain (OpenSpec.upto shardDrawsSpec)) shardDrawsUptoCard

/-- THE SECOND FORM's CARD OF 'beadrolllaw21.PoolDoes'. -/
def poolDoesUptoCard : Claim7 := { stood := { row := poolDoesUptoRow, standIns := [], harness := (true, "5e9f412f1212bc61720c0ae96912b2e2a3af49d40f0d1deeb001c10fd3b9134f"), looks := false }, kinds := [], alts := [], laidByText := true, laidKinds := [.data], laidTests := true, laidLooks := .later }
def PoolDoesUptoCardSaid : Prop := Claim7.holds Tryz.pinned (.plain (OpenSpec.upto poolDoesSpec)) poolDoesUptoCard

/-- THE SECOND FORM's CARD OF 'beadrolllaw21.PoolApart'. -/
def poolApartUptoCard : Claim7 := { stood := { row := poolApartUptoRow, standIns := [], harness := (true, "5e9f412f1212bc61720c0ae96912b2e2a3af49d40f0d1deeb001c10fd3b9134f"), looks := false }, kinds := [], alts := [], laidByText := true, laidKinds := [.data], laidTests := true, laidLooks := .later }
def PoolApartUptoCardSaid : Prop := Claim7.holds Tryz.pinned (.plain (OpenSpec.upto poolApartSpec)) poolApartUptoCard
end Rows
end Go.Proofs.YtonfljoibcnlgaaGreatDoor
