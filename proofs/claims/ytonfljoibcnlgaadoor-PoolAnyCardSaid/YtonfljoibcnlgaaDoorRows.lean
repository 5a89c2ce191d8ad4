/-
  NARROWER THAN 'FOR EVERY INPUT', by the rows' own cells (each row's printed sentence says how): QueueRuns: laid · PoolTells: laid · QueueNames: laid · QueueBest: laid · QueueDoes: laid · ShardKeeps: laid · ShardSubmits: laid · ShardReturns: laid · ShardRuns: laid · PoolAny: laid · ShardNames: laid · PoolNames: laid.
  DERIVED. THE GIVEN ROWS OF THIS SEAT. 12 by the template 'for every input the law returns true; each argument reads behind the call as it read before'; 0 by the template 'total and deterministic' (their statements: YtonfljoibcnlgaaDoorTotals.lean).
  GIVEN WITH THE SEED: the statements are not yours to turn. If you find one false, say at which input.
  Laid BY PROGRAM, IN A SANDBOX (cutbox-rows.mjs): the forced cells as the released guide's own fill.sh prints them over the translation 67985173ba615522… (all of the seat's roots in one cut). By AI agents, Wed Nov 11 2026. No macro, syntax, notation, axiom, sorry.
-/
import Derived.Test.YtonfljoibcnlgaaDoorChecked
import GoSem.Claim
import GoSem.ClaimJoined
import GoSem.ClaimMapViews
import Derived.JoinedTies
import Derived.KernelRfl
namespace Go.Proofs.YtonfljoibcnlgaaDoor
/- THE CELL 'sum', in the pinned program and in every row, IS THE sha256 OF THE DUMP (.gsa) THAT YtonfljoibcnlgaaDoorProg.lean LOADS. Nothing in Lean hashes anything: it is a label: what it is worth is what the hold of that sum in a sandbox is worth. -/
noncomputable def Tryd.pinned : Pinned := { name := "ytonfljoibcnlgaadoor", sum := "67985173ba6155229832cc805dfdab4967350d3c90ddd24fb2e610cdcea6779a", checked := Tryd.checked }
namespace Rows
def none {H : Type} : Left H := { results := [], args := [] }

/- WHAT THE LISTED PACKAGE-LEVEL VARIABLES READ AS WHEN THE CALL BEGINS. Each datum BY PROGRAM (the guide's laid-datum.mjs) off the statement by which the dump's own 'gosem.cut.vars' lays the variable. In a bare row this is a premise. The card (YtonfljoibcnlgaaDoorCards.lean) ties it to the program's text. -/
def laid_beadroll_sha_k {H : Type} : DataW H := .agg [.lit (.int .u32 1116352408), .lit (.int .u32 1899447441), .lit (.int .u32 3049323471), .lit (.int .u32 3921009573), .lit (.int .u32 961987163), .lit (.int .u32 1508970993), .lit (.int .u32 2453635748), .lit (.int .u32 2870763221), .lit (.int .u32 3624381080), .lit (.int .u32 310598401), .lit (.int .u32 607225278), .lit (.int .u32 1426881987), .lit (.int .u32 1925078388), .lit (.int .u32 2162078206), .lit (.int .u32 2614888103), .lit (.int .u32 3248222580), .lit (.int .u32 3835390401), .lit (.int .u32 4022224774), .lit (.int .u32 264347078), .lit (.int .u32 604807628), .lit (.int .u32 770255983), .lit (.int .u32 1249150122), .lit (.int .u32 1555081692), .lit (.int .u32 1996064986), .lit (.int .u32 2554220882), .lit (.int .u32 2821834349), .lit (.int .u32 2952996808), .lit (.int .u32 3210313671), .lit (.int .u32 3336571891), .lit (.int .u32 3584528711), .lit (.int .u32 113926993), .lit (.int .u32 338241895), .lit (.int .u32 666307205), .lit (.int .u32 773529912), .lit (.int .u32 1294757372), .lit (.int .u32 1396182291), .lit (.int .u32 1695183700), .lit (.int .u32 1986661051), .lit (.int .u32 2177026350), .lit (.int .u32 2456956037), .lit (.int .u32 2730485921), .lit (.int .u32 2820302411), .lit (.int .u32 3259730800), .lit (.int .u32 3345764771), .lit (.int .u32 3516065817), .lit (.int .u32 3600352804), .lit (.int .u32 4094571909), .lit (.int .u32 275423344), .lit (.int .u32 430227734), .lit (.int .u32 506948616), .lit (.int .u32 659060556), .lit (.int .u32 883997877), .lit (.int .u32 958139571), .lit (.int .u32 1322822218), .lit (.int .u32 1537002063), .lit (.int .u32 1747873779), .lit (.int .u32 1955562222), .lit (.int .u32 2024104815), .lit (.int .u32 2227730452), .lit (.int .u32 2361852424), .lit (.int .u32 2428436474), .lit (.int .u32 2756734187), .lit (.int .u32 3204031479), .lit (.int .u32 3329325298)]

/-- 'beadrolllaw19.QueueRuns': WHATEVER THE INPUT: true; the input reads as it did. -/
def queueRunsSpec : ChangeSpec := { name := "queueRuns", fn := fun _ => fun
  | [d1, d2] => { results := [.lit (.bool true)], args := [d1, d2] }
  | _ => none }
def queueRunsRow : OpenClaim := { program := "ytonfljoibcnlgaadoor", sum := "67985173ba6155229832cc805dfdab4967350d3c90ddd24fb2e610cdcea6779a", func := "beadroll/beadrolllaw19.QueueRuns", spec := "queueRuns", unfollowed := true, recurses := true, named := ["beadroll/sha.k"], apart := false, laid := [("beadroll/sha.k", laid_beadroll_sha_k)] }
def QueueRunsSaid : Prop := queueRunsRow.holds Tryd.pinned (OpenSpec.ofChange queueRunsSpec)

/-- ITS FALSE NEIGHBOUR: 'it returns false'. Refute it at one input. -/
def queueRunsWrong : ChangeSpec := { name := "queueRuns", fn := fun _ => fun
  | [d1, d2] => { results := [.lit (.bool false)], args := [d1, d2] }
  | _ => none }
def QueueRunsWrongFalsely : Prop := queueRunsRow.holds Tryd.pinned (OpenSpec.ofChange queueRunsWrong)

/-- 'beadrolllaw21.PoolTells': WHATEVER THE INPUT: true; the input reads as it did. -/
def poolTellsSpec : ChangeSpec := { name := "poolTells", fn := fun _ => fun
  | [d1, d2, d3, d4] => { results := [.lit (.bool true)], args := [d1, d2, d3, d4] }
  | _ => none }
def poolTellsRow : OpenClaim := { program := "ytonfljoibcnlgaadoor", sum := "67985173ba6155229832cc805dfdab4967350d3c90ddd24fb2e610cdcea6779a", func := "beadroll/beadrolllaw21.PoolTells", spec := "poolTells", unfollowed := true, recurses := true, named := ["beadroll/sha.k"], apart := false, laid := [("beadroll/sha.k", laid_beadroll_sha_k)] }
def PoolTellsSaid : Prop := poolTellsRow.holds Tryd.pinned (OpenSpec.ofChange poolTellsSpec)

/-- ITS FALSE NEIGHBOUR: 'it returns false'. Refute it at one input. -/
def poolTellsWrong : ChangeSpec := { name := "poolTells", fn := fun _ => fun
  | [d1, d2, d3, d4] => { results := [.lit (.bool false)], args := [d1, d2, d3, d4] }
  | _ => none }
def PoolTellsWrongFalsely : Prop := poolTellsRow.holds Tryd.pinned (OpenSpec.ofChange poolTellsWrong)

/-- 'beadrolllaw19.QueueNames': WHATEVER THE INPUT: true; the input reads as it did. -/
def queueNamesSpec : ChangeSpec := { name := "queueNames", fn := fun _ => fun
  | [] => { results := [.lit (.bool true)], args := [] }
  | _ => none }
def queueNamesRow : OpenClaim := { program := "ytonfljoibcnlgaadoor", sum := "67985173ba6155229832cc805dfdab4967350d3c90ddd24fb2e610cdcea6779a", func := "beadroll/beadrolllaw19.QueueNames", spec := "queueNames", inPlace := ["slices.overlaps[beadroll/api.Tx]"], unfollowed := true, recurses := true, named := ["beadroll/sha.k"], apart := false, laid := [("beadroll/sha.k", laid_beadroll_sha_k)] }
def QueueNamesSaid : Prop := queueNamesRow.holds Tryd.pinned (OpenSpec.ofChange queueNamesSpec)

/-- ITS FALSE NEIGHBOUR: 'it returns false'. Refute it at one input. -/
def queueNamesWrong : ChangeSpec := { name := "queueNames", fn := fun _ => fun
  | [] => { results := [.lit (.bool false)], args := [] }
  | _ => none }
def QueueNamesWrongFalsely : Prop := queueNamesRow.holds Tryd.pinned (OpenSpec.ofChange queueNamesWrong)

/-- 'beadrolllaw19.QueueBest': WHATEVER THE INPUT: true; the input reads as it did. -/
def queueBestSpec : ChangeSpec := { name := "queueBest", fn := fun _ => fun
  | [d1, d2, d3] => { results := [.lit (.bool true)], args := [d1, d2, d3] }
  | _ => none }
def queueBestRow : OpenClaim := { program := "ytonfljoibcnlgaadoor", sum := "67985173ba6155229832cc805dfdab4967350d3c90ddd24fb2e610cdcea6779a", func := "beadroll/beadrolllaw19.QueueBest", spec := "queueBest", inPlace := ["slices.overlaps[beadroll/api.Tx]"], unfollowed := true, recurses := true, named := ["beadroll/sha.k"], apart := false, laid := [("beadroll/sha.k", laid_beadroll_sha_k)] }
def QueueBestSaid : Prop := queueBestRow.holds Tryd.pinned (OpenSpec.ofChange queueBestSpec)

/-- ITS FALSE NEIGHBOUR: 'it returns false'. Refute it at one input. -/
def queueBestWrong : ChangeSpec := { name := "queueBest", fn := fun _ => fun
  | [d1, d2, d3] => { results := [.lit (.bool false)], args := [d1, d2, d3] }
  | _ => none }
def QueueBestWrongFalsely : Prop := queueBestRow.holds Tryd.pinned (OpenSpec.ofChange queueBestWrong)

/-- 'beadrolllaw19.QueueDoes': WHATEVER THE INPUT: true; the input reads as it did. -/
def queueDoesSpec : ChangeSpec := { name := "queueDoes", fn := fun _ => fun
  | [d1, d2, d3, d4] => { results := [.lit (.bool true)], args := [d1, d2, d3, d4] }
  | _ => none }
def queueDoesRow : OpenClaim := { program := "ytonfljoibcnlgaadoor", sum := "67985173ba6155229832cc805dfdab4967350d3c90ddd24fb2e610cdcea6779a", func := "beadroll/beadrolllaw19.QueueDoes", spec := "queueDoes", inPlace := ["slices.overlaps[beadroll/api.Tx]"], unfollowed := true, recurses := true, named := ["beadroll/sha.k"], apart := false, laid := [("beadroll/sha.k", laid_beadroll_sha_k)] }
def QueueDoesSaid : Prop := queueDoesRow.holds Tryd.pinned (OpenSpec.ofChange queueDoesSpec)

/-- ITS FALSE NEIGHBOUR: 'it returns false'. Refute it at one input. -/
def queueDoesWrong : ChangeSpec := { name := "queueDoes", fn := fun _ => fun
  | [d1, d2, d3, d4] => { results := [.lit (.bool false)], args := [d1, d2, d3, d4] }
  | _ => none }
def QueueDoesWrongFalsely : Prop := queueDoesRow.holds Tryd.pinned (OpenSpec.ofChange queueDoesWrong)

/-- 'beadrolllaw20.ShardKeeps': WHATEVER THE INPUT: true; the input reads as it did. -/
def shardKeepsSpec : ChangeSpec := { name := "shardKeeps", fn := fun _ => fun
  | [d1, d2, d3, d4] => { results := [.lit (.bool true)], args := [d1, d2, d3, d4] }
  | _ => none }
def shardKeepsRow : OpenClaim := { program := "ytonfljoibcnlgaadoor", sum := "67985173ba6155229832cc805dfdab4967350d3c90ddd24fb2e610cdcea6779a", func := "beadroll/beadrolllaw20.ShardKeeps", spec := "shardKeeps", inPlace := ["slices.overlaps[beadroll/api.Tx]", "slices.overlaps[beadroll/api.Line]"], unfollowed := true, recurses := true, named := ["beadroll/sha.k"], apart := false, laid := [("beadroll/sha.k", laid_beadroll_sha_k)] }
def ShardKeepsSaid : Prop := shardKeepsRow.holds Tryd.pinned (OpenSpec.ofChange shardKeepsSpec)

/-- ITS FALSE NEIGHBOUR: 'it returns false'. Refute it at one input. -/
def shardKeepsWrong : ChangeSpec := { name := "shardKeeps", fn := fun _ => fun
  | [d1, d2, d3, d4] => { results := [.lit (.bool false)], args := [d1, d2, d3, d4] }
  | _ => none }
def ShardKeepsWrongFalsely : Prop := shardKeepsRow.holds Tryd.pinned (OpenSpec.ofChange shardKeepsWrong)

/-- 'beadrolllaw20.ShardSubmits': WHATEVER THE INPUT: true; the input reads as it did. -/
def shardSubmitsSpec : ChangeSpec := { name := "shardSubmits", fn := fun _ => fun
  | [d1, d2, d3, d4, d5] => { results := [.lit (.bool true)], args := [d1, d2, d3, d4, d5] }
  | _ => none }
def shardSubmitsRow : OpenClaim := { program := "ytonfljoibcnlgaadoor", sum := "67985173ba6155229832cc805dfdab4967350d3c90ddd24fb2e610cdcea6779a", func := "beadroll/beadrolllaw20.ShardSubmits", spec := "shardSubmits", inPlace := ["slices.overlaps[beadroll/api.Tx]", "slices.overlaps[beadroll/api.Line]"], unfollowed := true, recurses := true, named := ["beadroll/sha.k"], apart := false, laid := [("beadroll/sha.k", laid_beadroll_sha_k)] }
def ShardSubmitsSaid : Prop := shardSubmitsRow.holds Tryd.pinned (OpenSpec.ofChange shardSubmitsSpec)

/-- ITS FALSE NEIGHBOUR: 'it returns false'. Refute it at one input. -/
def shardSubmitsWrong : ChangeSpec := { name := "shardSubmits", fn := fun _ => fun
  | [d1, d2, d3, d4, d5] => { results := [.lit (.bool false)], args := [d1, d2, d3, d4, d5] }
  | _ => none }
def ShardSubmitsWrongFalsely : Prop := shardSubmitsRow.holds Tryd.pinned (OpenSpec.ofChange shardSubmitsWrong)

/-- 'beadrolllaw20.ShardReturns': WHATEVER THE INPUT: true; the input reads as it did. -/
def shardReturnsSpec : ChangeSpec := { name := "shardReturns", fn := fun _ => fun
  | [d1, d2, d3] => { results := [.lit (.bool true)], args := [d1, d2, d3] }
  | _ => none }
def shardReturnsRow : OpenClaim := { program := "ytonfljoibcnlgaadoor", sum := "67985173ba6155229832cc805dfdab4967350d3c90ddd24fb2e610cdcea6779a", func := "beadroll/beadrolllaw20.ShardReturns", spec := "shardReturns", inPlace := ["slices.overlaps[beadroll/api.Tx]", "slices.overlaps[beadroll/api.Line]"], unfollowed := true, recurses := true, named := ["beadroll/sha.k"], apart := false, laid := [("beadroll/sha.k", laid_beadroll_sha_k)] }
def ShardReturnsSaid : Prop := shardReturnsRow.holds Tryd.pinned (OpenSpec.ofChange shardReturnsSpec)

/-- ITS FALSE NEIGHBOUR: 'it returns false'. Refute it at one input. -/
def shardReturnsWrong : ChangeSpec := { name := "shardReturns", fn := fun _ => fun
  | [d1, d2, d3] => { results := [.lit (.bool false)], args := [d1, d2, d3] }
  | _ => none }
def ShardReturnsWrongFalsely : Prop := shardReturnsRow.holds Tryd.pinned (OpenSpec.ofChange shardReturnsWrong)

/-- 'beadrolllaw20.ShardRuns': WHATEVER THE INPUT: true; the input reads as it did. -/
def shardRunsSpec : ChangeSpec := { name := "shardRuns", fn := fun _ => fun
  | [d1, d2, d3] => { results := [.lit (.bool true)], args := [d1, d2, d3] }
  | _ => none }
def shardRunsRow : OpenClaim := { program := "ytonfljoibcnlgaadoor", sum := "67985173ba6155229832cc805dfdab4967350d3c90ddd24fb2e610cdcea6779a", func := "beadroll/beadrolllaw20.ShardRuns", spec := "shardRuns", inPlace := ["slices.overlaps[beadroll/api.Tx]", "slices.overlaps[beadroll/api.Line]"], unfollowed := true, recurses := true, named := ["beadroll/sha.k"], apart := false, laid := [("beadroll/sha.k", laid_beadroll_sha_k)] }
def ShardRunsSaid : Prop := shardRunsRow.holds Tryd.pinned (OpenSpec.ofChange shardRunsSpec)

/-- ITS FALSE NEIGHBOUR: 'it returns false'. Refute it at one input. -/
def shardRunsWrong : ChangeSpec := { name := "shardRuns", fn := fun _ => fun
  | [d1, d2, d3] => { results := [.lit (.bool false)], args := [d1, d2, d3] }
  | _ => none }
def ShardRunsWrongFalsely : Prop := shardRunsRow.holds Tryd.pinned (OpenSpec.ofChange shardRunsWrong)

/-- 'beadrolllaw21.PoolAny': WHATEVER THE INPUT: true; the input reads as it did. -/
def poolAnySpec : ChangeSpec := { name := "poolAny", fn := fun _ => fun
  | [d1, d2, d3] => { results := [.lit (.bool true)], args := [d1, d2, d3] }
  | _ => none }
def poolAnyRow : OpenClaim := { program := "ytonfljoibcnlgaadoor", sum := "67985173ba6155229832cc805dfdab4967350d3c90ddd24fb2e610cdcea6779a", func := "beadroll/beadrolllaw21.PoolAny", spec := "poolAny", inPlace := ["slices.overlaps[beadroll/api.Tx]", "slices.overlaps[beadroll/api.Line]"], unfollowed := true, recurses := true, named := ["beadroll/sha.k"], apart := false, laid := [("beadroll/sha.k", laid_beadroll_sha_k)] }
def PoolAnySaid : Prop := poolAnyRow.holds Tryd.pinned (OpenSpec.ofChange poolAnySpec)

/-- ITS FALSE NEIGHBOUR: 'it returns false'. Refute it at one input. -/
def poolAnyWrong : ChangeSpec := { name := "poolAny", fn := fun _ => fun
  | [d1, d2, d3] => { results := [.lit (.bool false)], args := [d1, d2, d3] }
  | _ => none }
def PoolAnyWrongFalsely : Prop := poolAnyRow.holds Tryd.pinned (OpenSpec.ofChange poolAnyWrong)

/-- 'beadrolllaw20.ShardNames': WHATEVER THE INPUT: true; the input reads as it did. -/
def shardNamesSpec : ChangeSpec := { name := "shardNames", fn := fun _ => fun
  | [] => { results := [.lit (.bool true)], args := [] }
  | _ => none }
def shardNamesRow : OpenClaim := { program := "ytonfljoibcnlgaadoor", sum := "67985173ba6155229832cc805dfdab4967350d3c90ddd24fb2e610cdcea6779a", func := "beadroll/beadrolllaw20.ShardNames", spec := "shardNames", inPlace := ["slices.overlaps[beadroll/api.Tx]", "slices.overlaps[beadroll/api.Line]"], unfollowed := true, recurses := true, named := ["beadroll/sha.k"], apart := false, laid := [("beadroll/sha.k", laid_beadroll_sha_k)] }
def ShardNamesSaid : Prop := shardNamesRow.holds Tryd.pinned (OpenSpec.ofChange shardNamesSpec)

/-- ITS FALSE NEIGHBOUR: 'it returns false'. Refute it at one input. -/
def shardNamesWrong : ChangeSpec := { name := "shardNames", fn := fun _ => fun
  | [] => { results := [.lit (.bool false)], args := [] }
  | _ => none }
def ShardNamesWrongFalsely : Prop := shardNamesRow.holds Tryd.pinned (OpenSpec.ofChange shardNamesWrong)

/-- 'beadrolllaw21.PoolNames': WHATEVER THE INPUT: true; the input reads as it did. -/
def poolNamesSpec : ChangeSpec := { name := "poolNames", fn := fun _ => fun
  | [] => { results := [.lit (.bool true)], args := [] }
  | _ => none }
def poolNamesRow : OpenClaim := { program := "ytonfljoibcnlgaadoor", sum := "67985173ba6155229832cc805dfdab4967350d3c90ddd24fb2e610cdcea6779a", func := "beadroll/beadrolllaw21.PoolNames", spec := "poolNames", inPlace := ["slices.overlaps[beadroll/api.Line]", "slices.overlaps[beadroll/api.Tx]"], unfollowed := true, recurses := true, named := ["beadroll/sha.k"], apart := false, laid := [("beadroll/sha.k", laid_beadroll_sha_k)] }
def PoolNamesSaid : Prop := poolNamesRow.holds Tryd.pinned (OpenSpec.ofChange poolNamesSpec)

/-- ITS FALSE NEIGHBOUR: 'it returns false'. Refute it at one input. -/
def poolNamesWrong : ChangeSpec := { name := "poolNames", fn := fun _ => fun
  | [] => { results := [.lit (.bool false)], args := [] }
  | _ => none }
def PoolNamesWrongFalsely : Prop := poolNamesRow.holds Tryd.pinned (OpenSpec.ofChange poolNamesWrong)

/- THE SECOND FORM. 'bulk': how many values and letters a reading holds, each counted each time it is reached (what is shared counts as often as it is met; a slice's spare places count too). A statement '..UptoSaid' is the law's where the arguments, and the package variables that the reading takes, are together of bulk at most 1048576: NARROWER than '..Said'. Prove '..Said' where nothing that the law and all that it calls make is longer than what came in: it says more and counts as full. Else prove '..UptoSaid'. A law counts once. -/
mutual
def uptoBulk {H : Type} : DataW H → Nat
  | .lit (.string bytes) => bytes.length + 1
  | .lit _ => 1
  | .nil => 1
  | .ptr d => uptoBulk d + 1
  | .slice elems spare => uptoBulkAll elems + uptoBulkAll spare + 1
  | .agg parts => uptoBulkAll parts + 1
  | .iface _ d => uptoBulk d + 1
  | .map entries => uptoBulkEntries entries + 1
  | .held _ => 1
def uptoBulkAll {H : Type} : List (DataW H) → Nat
  | [] => 0
  | d :: r => uptoBulk d + uptoBulkAll r
def uptoBulkEntries {H : Type} : List (Lit × DataW H) → Nat
  | [] => 0
  | x :: r => uptoBulkEntry x + uptoBulkEntries r
def uptoBulkEntry {H : Type} : Lit × DataW H → Nat
  | (.string bytes, d) => bytes.length + uptoBulk d + 1
  | (_, d) => uptoBulk d + 1
 end
def uptoSmall : (H : Type) → List (DataW H) → Bool := fun _ ds => decide (uptoBulkAll ds ≤ 1048576)
def OpenSpec.upto (s : _root_.Go.ChangeSpec) : _root_.Go.OpenSpec := { _root_.Go.OpenSpec.ofChange s with cond := some uptoSmall }

/-- 'beadrolllaw19.QueueRuns', WHERE WHAT IT READS IS OF BULK AT MOST 1048576: true; the input reads as it did. -/
def queueRunsUptoRow : OpenClaim := { program := "ytonfljoibcnlgaadoor", sum := "67985173ba6155229832cc805dfdab4967350d3c90ddd24fb2e610cdcea6779a", func := "beadroll/beadrolllaw19.QueueRuns", spec := "queueRuns", unfollowed := true, recurses := true, named := ["beadroll/sha.k"], apart := false, laid := [("beadroll/sha.k", laid_beadroll_sha_k)], narrowed := true }
def QueueRunsUptoSaid : Prop := queueRunsUptoRow.holds Tryd.pinned (OpenSpec.upto queueRunsSpec)

/-- 'beadrolllaw21.PoolTells', WHERE WHAT IT READS IS OF BULK AT MOST 1048576: true; the input reads as it did. -/
def poolTellsUptoRow : OpenClaim := { program := "ytonfljoibcnlgaadoor", sum := "67985173ba6155229832cc805dfdab4967350d3c90ddd24fb2e610cdcea6779a", func := "beadroll/beadrolllaw21.PoolTells", spec := "poolTells", unfollowed := true, recurses := true, named := ["beadroll/sha.k"], apart := false, laid := [("beadroll/sha.k", laid_beadroll_sha_k)], narrowed := true }
def PoolTellsUptoSaid : Prop := poolTellsUptoRow.holds Tryd.pinned (OpenSpec.upto poolTellsSpec)

/-- 'beadrolllaw19.QueueNames', WHERE WHAT IT READS IS OF BULK AT MOST 1048576: true; the input reads as it did. -/
def queueNamesUptoRow : OpenClaim := { program := "ytonfljoibcnlgaadoor", sum := "67985173ba6155229832cc805dfdab4967350d3c90ddd24fb2e610cdcea6779a", func := "beadroll/beadrolllaw19.QueueNames", spec := "queueNames", inPlace := ["slices.overlaps[beadroll/api.Tx]"], unfollowed := true, recurses := true, named := ["beadroll/sha.k"], apart := false, laid := [("beadroll/sha.k", laid_beadroll_sha_k)], narrowed := true }
def QueueNamesUptoSaid : Prop := queueNamesUptoRow.holds Tryd.pinned (OpenSpec.upto queueNamesSpec)

/-- 'beadrolllaw19.QueueBest', WHERE WHAT IT READS IS OF BULK AT MOST 1048576: true; the input reads as it did. -/
def queueBestUptoRow : OpenClaim := { program := "ytonfljoibcnlgaadoor", sum := "67985173ba6155229832cc805dfdab4967350d3c90ddd24fb2e610cdcea6779a", func := "beadroll/beadrolllaw19.QueueBest", spec := "queueBest", inPlace := ["slices.overlaps[beadroll/api.Tx]"], unfollowed := true, recurses := true, named := ["beadroll/sha.k"], apart := false, laid := [("beadroll/sha.k", laid_beadroll_sha_k)], narrowed := true }
def QueueBestUptoSaid : Prop := queueBestUptoRow.holds Tryd.pinned (OpenSpec.upto queueBestSpec)

/-- 'beadrolllaw19.QueueDoes', WHERE WHAT IT READS IS OF BULK AT MOST 1048576: true; the input reads as it did. -/
def queueDoesUptoRow : OpenClaim := { program := "ytonfljoibcnlgaadoor", sum := "67985173ba6155229832cc805dfdab4967350d3c90ddd24fb2e610cdcea6779a", func := "beadroll/beadrolllaw19.QueueDoes", spec := "queueDoes", inPlace := ["slices.overlaps[beadroll/api.Tx]"], unfollowed := true, recurses := true, named := ["beadroll/sha.k"], apart := false, laid := [("beadroll/sha.k", laid_beadroll_sha_k)], narrowed := true }
def QueueDoesUptoSaid : Prop := queueDoesUptoRow.holds Tryd.pinned (OpenSpec.upto queueDoesSpec)

/-- 'beadrolllaw20.ShardKeeps', WHERE WHAT IT READS IS OF BULK AT MOST 1048576: true; the input reads as it did. -/
def shardKeepsUptoRow : OpenClaim := { program := "ytonfljoibcnlgaadoor", sum := "67985173ba6155229832cc805dfdab4967350d3c90ddd24fb2e610cdcea6779a", func := "beadroll/beadrolllaw20.ShardKeeps", spec := "shardKeeps", inPlace := ["slices.overlaps[beadroll/api.Tx]", "slices.overlaps[beadroll/api.Line]"], unfollowed := true, recurses := true, named := ["beadroll/sha.k"], apart := false, laid := [("beadroll/sha.k", laid_beadroll_sha_k)], narrowed := true }
def ShardKeepsUptoSaid : Prop := shardKeepsUptoRow.holds Tryd.pinned (OpenSpec.upto shardKeepsSpec)

/-- 'beadrolllaw20.ShardSubmits', WHERE WHAT IT READS IS OF BULK AT MOST 1048576: true; the input reads as it did. -/
def shardSubmitsUptoRow : OpenClaim := { program := "ytonfljoibcnlgaadoor", sum := "67985173ba6155229832cc805dfdab4967350d3c90ddd24fb2e610cdcea6779a", func := "beadroll/beadrolllaw20.ShardSubmits", spec := "shardSubmits", inPlace := ["slices.overlaps[beadroll/api.Tx]", "slices.overlaps[beadroll/api.Line]"], unfollowed := true, recurses := true, named := ["beadroll/sha.k"], apart := false, laid := [("beadroll/sha.k", laid_beadroll_sha_k)], narrowed := true }
def ShardSubmitsUptoSaid : Prop := shardSubmitsUptoRow.holds Tryd.pinned (OpenSpec.upto shardSubmitsSpec)

/-- 'beadrolllaw20.ShardReturns', WHERE WHAT IT READS IS OF BULK AT MOST 1048576: true; the input reads as it did. -/
def shardReturnsUptoRow : OpenClaim := { program := "ytonfljoibcnlgaadoor", sum := "67985173ba6155229832cc805dfdab4967350d3c90ddd24fb2e610cdcea6779a", func := "beadroll/beadrolllaw20.ShardReturns", spec := "shardReturns", inPlace := ["slices.overlaps[beadroll/api.Tx]", "slices.overlaps[beadroll/api.Line]"], unfollowed := true, recurses := true, named := ["beadroll/sha.k"], apart := false, laid := [("beadroll/sha.k", laid_beadroll_sha_k)], narrowed := true }
def ShardReturnsUptoSaid : Prop := shardReturnsUptoRow.holds Tryd.pinned (OpenSpec.upto shardReturnsSpec)

/-- 'beadrolllaw20.ShardRuns', WHERE WHAT IT READS IS OF BULK AT MOST 1048576: true; the input reads as it did. -/
def shardRunsUptoRow : OpenClaim := { program := "ytonfljoibcnlgaadoor", sum := "67985173ba6155229832cc805dfdab4967350d3c90ddd24fb2e610cdcea6779a", func := "beadroll/beadrolllaw20.ShardRuns", spec := "shardRuns", inPlace := ["slices.overlaps[beadroll/api.Tx]", "slices.overlaps[beadroll/api.Line]"], unfollowed := true, recurses := true, named := ["beadroll/sha.k"], apart := false, laid := [("beadroll/sha.k", laid_beadroll_sha_k)], narrowed := true }
def ShardRunsUptoSaid : Prop := shardRunsUptoRow.holds Tryd.pinned (OpenSpec.upto shardRunsSpec)

/-- 'beadrolllaw21.PoolAny', WHERE WHAT IT READS IS OF BULK AT MOST 1048576: true; the input reads as it did. -/
def poolAnyUptoRow : OpenClaim := { program := "ytonfljoibcnlgaadoor", sum := "67985173ba6155229832cc805dfdab4967350d3c90ddd24fb2e610cdcea6779a", func := "beadroll/beadrolllaw21.PoolAny", spec := "poolAny", inPlace := ["slices.overlaps[beadroll/api.Tx]", "slices.overlaps[beadroll/api.Line]"], unfollowed := true, recurses := true, named := ["beadroll/sha.k"], apart := false, laid := [("beadroll/sha.k", laid_beadroll_sha_k)], narrowed := true }
def PoolAnyUptoSaid : Prop := poolAnyUptoRow.holds Tryd.pinned (OpenSpec.upto poolAnySpec)

/-- 'beadrolllaw20.ShardNames', WHERE WHAT IT READS IS OF BULK AT MOST 1048576: true; the input reads as it did. -/
def shardNamesUptoRow : OpenClaim := { program := "ytonfljoibcnlgaadoor", sum := "67985173ba6155229832cc805dfdab4967350d3c90ddd24fb2e610cdcea6779a", func := "beadroll/beadrolllaw20.ShardNames", spec := "shardNames", inPlace := ["slices.overlaps[beadroll/api.Tx]", "slices.overlaps[beadroll/api.Line]"], unfollowed := true, recurses := true, named := ["beadroll/sha.k"], apart := false, laid := [("beadroll/sha.k", laid_beadroll_sha_k)], narrowed := true }
def ShardNamesUptoSaid : Prop := shardNamesUptoRow.holds Tryd.pinned (OpenSpec.upto shardNamesSpec)

/-- 'beadrolllaw21.PoolNames', WHERE WHAT IT READS IS OF BULK AT MOST 1048576: true; the input reads as it did. -/
def poolNamesUptoRow : OpenClaim := { program := "ytonfljoibcnlgaadoor", sum := "67985173ba6155229832cc805dfdab4967350d3c90ddd24fb2e610cdcea6779a", func := "beadroll/beadrolllaw21.PoolNames", spec := "poolNames", inPlace := ["slices.overlaps[beadroll/api.Line]", "slices.overlaps[beadroll/api.Tx]"], unfollowed := true, recurses := true, named := ["beadroll/sha.k"], apart := false, laid := [("beadroll/sha.k", laid_beadroll_sha_k)], narrowed := true }
def PoolNamesUptoSaid : Prop := poolNamesUptoRow.holds Tryd.pinned (OpenSpec.upto poolNamesSpec)

end Rows
end Go.Proofs.YtonfljoibcnlgaaDoor
