/-
  DERIVED. GIVEN WITH THE SEED: THE CARDS: each row of YtonfljoibcnlgaaDoorRows.lean that lists a variable, with what it lists TIED to the program's text (the seventh form; the later family's looks); each row that meets fmt, with fmt's text TOLD by the authors' own Lean function (tested against real Go, not proved from fmt's source: count such statements apart). THE CARD IS WHAT COUNTS. Prove the row's statement (the work); the ties are given (YtonfljoibcnlgaaDoorTie.lean); close each card by the builder's one call (the guide's Derived/Test/ToyasCard.lean, 'card_holds'). Laid BY PROGRAM, IN A SANDBOX (cutbox-door.mjs). By AI agents, Wed Nov 11 2026. No macro, syntax, notation, axiom, sorry.
-/
import Derived.Test.YtonfljoibcnlgaaDoorRows
import GoSem.ClaimSeven
namespace Go.Proofs.YtonfljoibcnlgaaDoor
namespace Rows

/-- THE TIED CARD OF 'beadrolllaw19.QueueRuns'. -/
def queueRunsCard : Claim7 := { stood := { row := queueRunsRow, standIns := [], harness := (true, "83b0ba3b111eb12170a7512c411ea14f425a1414bdf8596a2468d530049401d5"), looks := false }, kinds := [], alts := [], laidByText := true, laidKinds := [.data], laidTests := true, laidLooks := .later }
def QueueRunsCardSaid : Prop := Claim7.holds Tryd.pinned (.plain (OpenSpec.ofChange queueRunsSpec)) queueRunsCard

/-- THE TIED CARD OF 'beadrolllaw21.PoolTells'. -/
def poolTellsCard : Claim7 := { stood := { row := poolTellsRow, standIns := [], harness := (true, "83b0ba3b111eb12170a7512c411ea14f425a1414bdf8596a2468d530049401d5"), looks := false }, kinds := [], alts := [], laidByText := true, laidKinds := [.data], laidTests := true, laidLooks := .later }
def PoolTellsCardSaid : Prop := Claim7.holds Tryd.pinned (.plain (OpenSpec.ofChange poolTellsSpec)) poolTellsCard

/-- THE TIED CARD OF 'beadrolllaw19.QueueNames'. -/
def queueNamesCard : Claim7 := { stood := { row := queueNamesRow, standIns := [], harness := (true, "83b0ba3b111eb12170a7512c411ea14f425a1414bdf8596a2468d530049401d5"), looks := false }, kinds := [], alts := [], laidByText := true, laidKinds := [.data], laidTests := true, laidLooks := .later }
def QueueNamesCardSaid : Prop := Claim7.holds Tryd.pinned (.plain (OpenSpec.ofChange queueNamesSpec)) queueNamesCard

/-- THE TIED CARD OF 'beadrolllaw19.QueueBest'. -/
def queueBestCard : Claim7 := { stood := { row := queueBestRow, standIns := [], harness := (true, "83b0ba3b111eb12170a7512c411ea14f425a1414bdf8596a2468d530049401d5"), looks := false }, kinds := [], alts := [], laidByText := true, laidKinds := [.data], laidTests := true, laidLooks := .later }
def QueueBestCardSaid : Prop := Claim7.holds Tryd.pinned (.plain (OpenSpec.ofChange queueBestSpec)) queueBestCard

/-- THE TIED CARD OF 'beadrolllaw19.QueueDoes'. -/
def queueDoesCard : Claim7 := { stood := { row := queueDoesRow, standIns := [], harness := (true, "83b0ba3b111eb12170a7512c411ea14f425a1414bdf8596a2468d530049401d5"), looks := false }, kinds := [], alts := [], laidByText := true, laidKinds := [.data], laidTests := true, laidLooks := .later }
def QueueDoesCardSaid : Prop := Claim7.holds Tryd.pinned (.plain (OpenSpec.ofChange queueDoesSpec)) queueDoesCard

/-- THE TIED CARD OF 'beadrolllaw20.ShardKeeps'. -/
def shardKeepsCard : Claim7 := { stood := { row := shardKeepsRow, standIns := [], harness := (true, "83b0ba3b111eb12170a7512c411ea14f425a1414bdf8596a2468d530049401d5"), looks := false }, kinds := [], alts := [], laidByText := true, laidKinds := [.data], laidTests := true, laidLooks := .later }
def ShardKeepsCardSaid : Prop := Claim7.holds Tryd.pinned (.plain (OpenSpec.ofChange shardKeepsSpec)) shardKeepsCard

/-- THE TIED CARD OF 'beadrolllaw20.ShardSubmits'. -/
def shardSubmitsCard : Claim7 := { stood := { row := shardSubmitsRow, standIns := [], harness := (true, "83b0ba3b111eb12170a7512c411ea14f425a1414bdf8596a2468d530049401d5"), looks := false }, kinds := [], alts := [], laidByText := true, laidKinds := [.data], laidTests := true, laidLooks := .later }
def ShardSubmitsCardSaid : Prop := Claim7.holds Tryd.pinned (.plain (OpenSpec.ofChange shardSubmitsSpec)) shardSubmitsCard

/-- THE TIED CARD OF 'beadrolllaw20.ShardReturns'. -/
def shardReturnsCard : Claim7 := { stood := { row := shardReturnsRow, standIns := [], harness := (true, "83b0ba3b111eb12170a7512c411ea14f425a1414bdf8596a2468d530049401d5"), looks := false }, kinds := [], alts := [], laidByText := true, laidKinds := [.data], laidTests := true, laidLooks := .later }
def ShardReturnsCardSaid : Prop := Claim7.holds Tryd.pinned (.plain (OpenSpec.ofChange shardReturnsSpec)) shardReturnsCard

/-- THE TIED CARD OF 'beadrolllaw20.ShardRuns'. -/
def shardRunsCard : Claim7 := { stood := { row := shardRunsRow, standIns := [], harness := (true, "83b0ba3b111eb12170a7512c411ea14f425a1414bdf8596a2468d530049401d5"), looks := false }, kinds := [], alts := [], laidByText := true, laidKinds := [.data], laidTests := true, laidLooks := .later }
def ShardRunsCardSaid : Prop := Claim7.holds Tryd.pinned (.plain (OpenSpec.ofChange shardRunsSpec)) shardRunsCard

/-- THE TIED CARD OF 'beadrolllaw21.PoolAny'. -/
def poolAnyCard : Claim7 := { stood := { row := poolAnyRow, standIns := [], harness := (true, "83b0ba3b111eb12170a7512c411ea14f425a1414bdf8596a2468d530049401d5"), looks := false }, kinds := [], alts := [], laidByText := true, laidKinds := [.data], laidTests := true, laidLooks := .later }
def PoolAnyCardSaid : Prop := Claim7.holds Tryd.pinned (.plain (OpenSpec.ofChange poolAnySpec)) poolAnyCard

/-- THE TIED CARD OF 'beadrolllaw20.ShardNames'. -/
def shardNamesCard : Claim7 := { stood := { row := shardNamesRow, standIns := [], harness := (true, "83b0ba3b111eb12170a7512c411ea14f425a1414bdf8596a2468d530049401d5"), looks := false }, kinds := [], alts := [], laidByText := true, laidKinds := [.data], laidTests := true, laidLooks := .later }
def ShardNamesCardSaid : Prop := Claim7.holds Tryd.pinned (.plain (OpenSpec.ofChange shardNamesSpec)) shardNamesCard

/-- THE TIED CARD OF 'beadrolllaw21.PoolNames'. -/
def poolNamesCard : Claim7 := { stood := { row := poolNamesRow, standIns := [], harness := (true, "83b0ba3b111eb12170a7512c411ea14f425a1414bdf8596a2468d530049401d5"), looks := false }, kinds := [], alts := [], laidByText := true, laidKinds := [.data], laidTests := true, laidLooks := .later }
def PoolNamesCardSaid : Prop := Claim7.holds Tryd.pinned (.plain (OpenSpec.ofChange poolNamesSpec)) poolNamesCard

/-- THE SECOND FORM's CARD OF 'beadrolllaw19.QueueRuns'. -/
def queueRunsUptoCard : Claim7 := { stood := { row := queueRunsUptoRow, standIns := [], harness := (true, "83b0ba3b111eb12170a7512c411ea14f425a1414bdf8596a2468d530049401d5"), looks := false }, kinds := [], alts := [], laidByText := true, laidKinds := [.data], laidTests := true, laidLooks := .later }
def QueueRunsUptoCardSaid : Prop := Claim7.holds Tryd.pinned (.plain (OpenSpec.upto queueRunsSpec)) queueRunsUptoCard

/-- THE SECOND FORM's CARD OF 'beadrolllaw21.PoolTells'. -/
def poolTellsUptoCard : Claim7 := { stood := { row := poolTellsUptoRow, standIns := [], harness := (true, "83b0ba3b111eb12170a7512c411ea14f425a1414bdf8596a2468d530049401d5"), looks := false }, kinds := [], alts := [], laidByText := true, laidKinds := [.data], laidTests := true, laidLooks := .later }
def PoolTellsUptoCardSaid : Prop := Claim7.holds Tryd.pinned (.plain (OpenSpec.upto poolTellsSpec)) poolTellsUptoCard

/-- THE SECOND FORM's CARD OF 'beadrolllaw19.QueueNames'. -/
def queueNamesUptoCard : Claim7 := { stood := { row := queueNamesUptoRow, standIns := [], harness := (true, "83b0ba3b111eb12170a7512c411ea14f425a1414bdf8596a2468d530049401d5"), looks := false }, kinds := [], alts := [], laidByText := true, laidKinds := [.data], laidTests := true, laidLooks := .later }
def QueueNamesUptoCardSaid : Prop := Claim7.holds Tryd.pinned (.plain (OpenSpec.upto queueNamesSpec)) queueNamesUptoCard

/-- THE SECOND FORM's CARD OF 'beadrolllaw19.QueueBest'. -/
def queueBestUptoCard : Claim7 := { stood := { row := queueBestUptoRow, standIns := [], harness := (true, "83b0ba3b111eb12170a7512c411ea14f425a1414bdf8596a2468d530049401d5"), looks := false }, kinds := [], alts := [], laidByText := true, laidKinds := [.data], laidTests := true, laidLooks := .later }
def QueueBestUptoCardSaid : Prop := Claim7.holds Tryd.pinned (.plain (OpenSpec.upto queueBestSpec)) queueBestUptoCard

/-- THE SECOND FORM's CARD OF 'beadrolllaw19.QueueDoes'. -/
def queueDoesUptoCard : Claim7 := { stood := { row := queueDoesUptoRow, standIns := [], harness := (true, "83b0ba3b111eb12170a7512c411ea14f425a1414bdf8596a2468d530049401d5"), looks := false }, kinds := [], alts := [], laidByText := true, laidKinds := [.data], laidTests := true, laidLooks := .later }
def QueueDoesUptoCardSaid : Prop := Claim7.holds Tryd.pinned (.plain (OpenSpec.upto queueDoesSpec)) queueDoesUptoCard

/-- THE SECOND FORM's CARD OF 'beadrolllaw20.ShardKeeps'. -/
def shardKeepsUptoCard : Claim7 := { stood := { row := shardKeepsUptoRow, standIns := [], harness := (true, "83b0ba3b111eb12170a7512c411ea14f425a1414bdf8596a2468d530049401d5"), looks := false }, kinds := [], alts := [], laidByText := true, laidKinds := [.data], laidTests := true, laidLooks := .later }
def ShardKeepsUptoCardSaid : Prop := Claim7.holds Tryd.pinned (.plain (OpenSpec.upto shardKeepsSpec)) shardKeepsUptoCard

/-- THE SECOND FORM's CARD OF 'beadrolllaw20.ShardSubmits'. -/
def shardSubmitsUptoCard : Claim7 := { stood := { row := shardSubmitsUptoRow, standIns := [], harness := (true, "83b0ba3b111eb12170a7512c411ea14f425a1414bdf8596a2468d530049401d5"), looks := false }, kinds := [], alts := [], laidByText := true, laidKinds := [.data], laidTests := true, laidLooks := .later }
def ShardSubmitsUptoCardSaid : Prop := Claim7.holds Tryd.pinned (.plain (OpenSpec.upto shardSubmitsSpec)) shardSubmitsUptoCard

/-- THE SECOND FORM's CARD OF 'beadrolllaw20.ShardReturns'. -/
def shardReturnsUptoCard : Claim7 := { stood := { row := shardReturnsUptoRow, standIns := [], harness := (true, "83b0ba3b111eb12170a7512c411ea14f425a1414bdf8596a2468d530049401d5"), looks := false }, kinds := [], alts := [], laidByText := true, laidKinds := [.data], laidTests := true, laidLooks := .later }
def ShardReturnsUptoCardSaid : Prop := Claim7.holds Tryd.pinned (.plain (OpenSpec.upto shardReturnsSpec)) shardReturnsUptoCard

/-- THE SECOND FORM's CARD OF 'beadrolllaw20.ShardRuns'. -/
def shardRunsUptoCard : Claim7 := { stood := { row := shardRunsUptoRow, standIns := [], harness := (true, "83b0ba3b111eb12170a7512c411ea14f425a1414bdf8596a2468d530049401d5"), looks := false }, kinds := [], alts := [], laidByText := true, laidKinds := [.data], laidTests := true, laidLooks := .later }
def ShardRunsUptoCardSaid : Prop := Claim7.holds Tryd.pinned (.plain (OpenSpec.upto shardRunsSpec)) shardRunsUptoCard

/-- THE SECOND FORM's CARD OF 'beadrolllaw21.PoolAny'. -/
def poolAnyUptoCard : Claim7 := { stood := { row := poolAnyUptoRow, standIns := [], harness := (true, "83b0ba3b111eb12170a7512c411ea14f425a1414bdf8596a2468d530049401d5"), looks := false }, kinds := [], alts := [], laidByText := true, laidKinds := [.data], laidTests := true, laidLooks := .later }
def PoolAnyUptoCardSaid : Prop := Claim7.holds Tryd.pinned (.plain (OpenSpec.upto poolAnySpec)) poolAnyUptoCard

/-- THE SECOND FORM's CARD OF 'beadrolllaw20.ShardNames'. -/
def shardNamesUptoCard : Claim7 := { stood := { row := shardNamesUptoRow, standIns := [], harness := (true, "83b0ba3b111eb12170a7512c411ea14f425a1414bdf8596a2468d530049401d5"), looks := false }, kinds := [], alts := [], laidByText := true, laidKinds := [.data], laidTests := true, laidLooks := .later }
def ShardNamesUptoCardSaid : Prop := Claim7.holds Tryd.pinned (.plain (OpenSpec.upto shardNamesSpec)) shardNamesUptoCard

/-- THE SECOND FORM's CARD OF 'beadrolllaw21.PoolNames'. -/
def poolNamesUptoCard : Claim7 := { stood := { row := poolNamesUptoRow, standIns := [], harness := (true, "83b0ba3b111eb12170a7512c411ea14f425a1414bdf8596a2468d530049401d5"), looks := false }, kinds := [], alts := [], laidByText := true, laidKinds := [.data], laidTests := true, laidLooks := .later }
def PoolNamesUptoCardSaid : Prop := Claim7.holds Tryd.pinned (.plain (OpenSpec.upto poolNamesSpec)) poolNamesUptoCard
end Rows
end Go.Proofs.YtonfljoibcnlgaaDoor
