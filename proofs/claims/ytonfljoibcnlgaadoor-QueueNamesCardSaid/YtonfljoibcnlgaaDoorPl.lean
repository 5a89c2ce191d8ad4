/-
  The queue's first examples. No machine is in sight.
-/
import Derived.Test.YtonfljoibcnlgaaDoorPc
import Derived.KernelRfl
namespace Go.Proofs.YtonfljoibcnlgaaDoor
open Bd Go
theorem alive_val : F15_beadrolllaw19_alive 300 = some true := by kernel_rfl
end Go.Proofs.YtonfljoibcnlgaaDoor
