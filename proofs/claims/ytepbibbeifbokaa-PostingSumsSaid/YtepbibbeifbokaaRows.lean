/-
  No cell of these rows narrows 'for every input' (looked for: loops, veiled, ifaces, maps, wideKeys, modest, calm, conditions, laid).
  DERIVED. THE GIVEN ROWS OF THIS SEAT. 14 by the template 'for every input the law returns true; each argument reads behind the call as it read before'; 0 by the template 'total and deterministic' (their statements: YtepbibbeifbokaaTotals.lean).
  GIVEN WITH THE SEED: the statements are not yours to turn. If you find one false, say at which input.
  Laid BY PROGRAM, IN A SANDBOX (cutbox-rows.mjs): the forced cells as the released guide's own fill.sh prints them over the translation b8cb32ccc6a8d3b0… (all of the seat's roots in one cut). By AI agents, Wed Nov 11 2026. No macro, syntax, notation, axiom, sorry.
-/
import Derived.Test.YtepbibbeifbokaaChecked
import GoSem.Claim
import GoSem.ClaimJoined
import GoSem.ClaimMapViews
import Derived.JoinedTies
import Derived.KernelRfl
namespace Go.Proofs.Ytepbibbeifbokaa
/- THE CELL 'sum', in the pinned program and in every row, IS THE sha256 OF THE DUMP (.gsa) THAT YtepbibbeifbokaaProg.lean LOADS. Nothing in Lean hashes anything: it is a label: what it is worth is what the hold of that sum in a sandbox is worth. -/
noncomputable def Try.pinned : Pinned := { name := "ytepbibbeifbokaa", sum := "b8cb32ccc6a8d3b04f9569d399b37868f5dc1bcada35f221478f085d727a879a", checked := Try.checked }
namespace Rows
def none {H : Type} : Left H := { results := [], args := [] }

/-- 'quittancelaw16.WaterfallAll': WHATEVER THE INPUT: true; the input reads as it did. -/
def waterfallAllSpec : ChangeSpec := { name := "waterfallAll", fn := fun _ => fun
  | [d1, d2, d3] => { results := [.lit (.bool true)], args := [d1, d2, d3] }
  | _ => none }
def waterfallAllRow : OpenClaim := { program := "ytepbibbeifbokaa", sum := "b8cb32ccc6a8d3b04f9569d399b37868f5dc1bcada35f221478f085d727a879a", func := "quittance/quittancelaw16.WaterfallAll", spec := "waterfallAll", unfollowed := true, recurses := true, apart := false }
def WaterfallAllSaid : Prop := waterfallAllRow.holds Try.pinned (OpenSpec.ofChange waterfallAllSpec)

/-- ITS FALSE NEIGHBOUR: 'it returns false'. Refute it at one input. -/
def waterfallAllWrong : ChangeSpec := { name := "waterfallAll", fn := fun _ => fun
  | [d1, d2, d3] => { results := [.lit (.bool false)], args := [d1, d2, d3] }
  | _ => none }
def WaterfallAllWrongFalsely : Prop := waterfallAllRow.holds Try.pinned (OpenSpec.ofChange waterfallAllWrong)

/-- 'quittancelaw16.WaterfallOrders': WHATEVER THE INPUT: true; the input reads as it did. -/
def waterfallOrdersSpec : ChangeSpec := { name := "waterfallOrders", fn := fun _ => fun
  | [d1, d2, d3, d4] => { results := [.lit (.bool true)], args := [d1, d2, d3, d4] }
  | _ => none }
def waterfallOrdersRow : OpenClaim := { program := "ytepbibbeifbokaa", sum := "b8cb32ccc6a8d3b04f9569d399b37868f5dc1bcada35f221478f085d727a879a", func := "quittance/quittancelaw16.WaterfallOrders", spec := "waterfallOrders", unfollowed := true, recurses := true, apart := false }
def WaterfallOrdersSaid : Prop := waterfallOrdersRow.holds Try.pinned (OpenSpec.ofChange waterfallOrdersSpec)

/-- ITS FALSE NEIGHBOUR: 'it returns false'. Refute it at one input. -/
def waterfallOrdersWrong : ChangeSpec := { name := "waterfallOrders", fn := fun _ => fun
  | [d1, d2, d3, d4] => { results := [.lit (.bool false)], args := [d1, d2, d3, d4] }
  | _ => none }
def WaterfallOrdersWrongFalsely : Prop := waterfallOrdersRow.holds Try.pinned (OpenSpec.ofChange waterfallOrdersWrong)

/-- 'quittancelaw15.BucketsSum': WHATEVER THE INPUT: true; the input reads as it did. -/
def bucketsSumSpec : ChangeSpec := { name := "bucketsSum", fn := fun _ => fun
  | [d] => { results := [.lit (.bool true)], args := [d] }
  | _ => none }
def bucketsSumRow : OpenClaim := { program := "ytepbibbeifbokaa", sum := "b8cb32ccc6a8d3b04f9569d399b37868f5dc1bcada35f221478f085d727a879a", func := "quittance/quittancelaw15.BucketsSum", spec := "bucketsSum", unfollowed := true, recurses := true, apart := false }
def BucketsSumSaid : Prop := bucketsSumRow.holds Try.pinned (OpenSpec.ofChange bucketsSumSpec)

/-- ITS FALSE NEIGHBOUR: 'it returns false'. Refute it at one input. -/
def bucketsSumWrong : ChangeSpec := { name := "bucketsSum", fn := fun _ => fun
  | [d] => { results := [.lit (.bool false)], args := [d] }
  | _ => none }
def BucketsSumWrongFalsely : Prop := bucketsSumRow.holds Try.pinned (OpenSpec.ofChange bucketsSumWrong)

/-- 'quittancelaw15.BucketsWrong': WHATEVER THE INPUT: true; the input reads as it did. -/
def bucketsWrongSpec : ChangeSpec := { name := "bucketsWrong", fn := fun _ => fun
  | [d1, d2, d3] => { results := [.lit (.bool true)], args := [d1, d2, d3] }
  | _ => none }
def bucketsWrongRow : OpenClaim := { program := "ytepbibbeifbokaa", sum := "b8cb32ccc6a8d3b04f9569d399b37868f5dc1bcada35f221478f085d727a879a", func := "quittance/quittancelaw15.BucketsWrong", spec := "bucketsWrong", unfollowed := true, recurses := true, apart := false }
def BucketsWrongSaid : Prop := bucketsWrongRow.holds Try.pinned (OpenSpec.ofChange bucketsWrongSpec)

/-- ITS FALSE NEIGHBOUR: 'it returns false'. Refute it at one input. -/
def bucketsWrongWrong : ChangeSpec := { name := "bucketsWrong", fn := fun _ => fun
  | [d1, d2, d3] => { results := [.lit (.bool false)], args := [d1, d2, d3] }
  | _ => none }
def BucketsWrongWrongFalsely : Prop := bucketsWrongRow.holds Try.pinned (OpenSpec.ofChange bucketsWrongWrong)

/-- 'quittancelaw15.BucketsBounds': WHATEVER THE INPUT: true; the input reads as it did. -/
def bucketsBoundsSpec : ChangeSpec := { name := "bucketsBounds", fn := fun _ => fun
  | [d1, d2] => { results := [.lit (.bool true)], args := [d1, d2] }
  | _ => none }
def bucketsBoundsRow : OpenClaim := { program := "ytepbibbeifbokaa", sum := "b8cb32ccc6a8d3b04f9569d399b37868f5dc1bcada35f221478f085d727a879a", func := "quittance/quittancelaw15.BucketsBounds", spec := "bucketsBounds", unfollowed := true, recurses := true, apart := false }
def BucketsBoundsSaid : Prop := bucketsBoundsRow.holds Try.pinned (OpenSpec.ofChange bucketsBoundsSpec)

/-- ITS FALSE NEIGHBOUR: 'it returns false'. Refute it at one input. -/
def bucketsBoundsWrong : ChangeSpec := { name := "bucketsBounds", fn := fun _ => fun
  | [d1, d2] => { results := [.lit (.bool false)], args := [d1, d2] }
  | _ => none }
def BucketsBoundsWrongFalsely : Prop := bucketsBoundsRow.holds Try.pinned (OpenSpec.ofChange bucketsBoundsWrong)

/-- 'quittancelaw24.PostingBalanced': WHATEVER THE INPUT: true; the input reads as it did. -/
def postingBalancedSpec : ChangeSpec := { name := "postingBalanced", fn := fun _ => fun
  | [d1, d2] => { results := [.lit (.bool true)], args := [d1, d2] }
  | _ => none }
def postingBalancedRow : OpenClaim := { program := "ytepbibbeifbokaa", sum := "b8cb32ccc6a8d3b04f9569d399b37868f5dc1bcada35f221478f085d727a879a", func := "quittance/quittancelaw24.PostingBalanced", spec := "postingBalanced", unfollowed := true, recurses := true, apart := false }
def PostingBalancedSaid : Prop := postingBalancedRow.holds Try.pinned (OpenSpec.ofChange postingBalancedSpec)

/-- ITS FALSE NEIGHBOUR: 'it returns false'. Refute it at one input. -/
def postingBalancedWrong : ChangeSpec := { name := "postingBalanced", fn := fun _ => fun
  | [d1, d2] => { results := [.lit (.bool false)], args := [d1, d2] }
  | _ => none }
def PostingBalancedWrongFalsely : Prop := postingBalancedRow.holds Try.pinned (OpenSpec.ofChange postingBalancedWrong)

/-- 'quittancelaw24.PostingSums': WHATEVER THE INPUT: true; the input reads as it did. -/
def postingSumsSpec : ChangeSpec := { name := "postingSums", fn := fun _ => fun
  | [d1, d2, d3] => { results := [.lit (.bool true)], args := [d1, d2, d3] }
  | _ => none }
def postingSumsRow : OpenClaim := { program := "ytepbibbeifbokaa", sum := "b8cb32ccc6a8d3b04f9569d399b37868f5dc1bcada35f221478f085d727a879a", func := "quittance/quittancelaw24.PostingSums", spec := "postingSums", unfollowed := true, recurses := true, apart := false }
def PostingSumsSaid : Prop := postingSumsRow.holds Try.pinned (OpenSpec.ofChange postingSumsSpec)

/-- ITS FALSE NEIGHBOUR: 'it returns false'. Refute it at one input. -/
def postingSumsWrong : ChangeSpec := { name := "postingSums", fn := fun _ => fun
  | [d1, d2, d3] => { results := [.lit (.bool false)], args := [d1, d2, d3] }
  | _ => none }
def PostingSumsWrongFalsely : Prop := postingSumsRow.holds Try.pinned (OpenSpec.ofChange postingSumsWrong)

/-- 'quittancelaw15.BucketsTell': WHATEVER THE INPUT: true; the input reads as it did. -/
def bucketsTellSpec : ChangeSpec := { name := "bucketsTell", fn := fun _ => fun
  | [d1, d2, d3] => { results := [.lit (.bool true)], args := [d1, d2, d3] }
  | _ => none }
def bucketsTellRow : OpenClaim := { program := "ytepbibbeifbokaa", sum := "b8cb32ccc6a8d3b04f9569d399b37868f5dc1bcada35f221478f085d727a879a", func := "quittance/quittancelaw15.BucketsTell", spec := "bucketsTell", unfollowed := true, recurses := true, apart := false }
def BucketsTellSaid : Prop := bucketsTellRow.holds Try.pinned (OpenSpec.ofChange bucketsTellSpec)

/-- ITS FALSE NEIGHBOUR: 'it returns false'. Refute it at one input. -/
def bucketsTellWrong : ChangeSpec := { name := "bucketsTell", fn := fun _ => fun
  | [d1, d2, d3] => { results := [.lit (.bool false)], args := [d1, d2, d3] }
  | _ => none }
def BucketsTellWrongFalsely : Prop := bucketsTellRow.holds Try.pinned (OpenSpec.ofChange bucketsTellWrong)

/-- 'quittancelaw24.PostingTells': WHATEVER THE INPUT: true; the input reads as it did. -/
def postingTellsSpec : ChangeSpec := { name := "postingTells", fn := fun _ => fun
  | [d1, d2, d3, d4, d5] => { results := [.lit (.bool true)], args := [d1, d2, d3, d4, d5] }
  | _ => none }
def postingTellsRow : OpenClaim := { program := "ytepbibbeifbokaa", sum := "b8cb32ccc6a8d3b04f9569d399b37868f5dc1bcada35f221478f085d727a879a", func := "quittance/quittancelaw24.PostingTells", spec := "postingTells", unfollowed := true, recurses := true, apart := false }
def PostingTellsSaid : Prop := postingTellsRow.holds Try.pinned (OpenSpec.ofChange postingTellsSpec)

/-- ITS FALSE NEIGHBOUR: 'it returns false'. Refute it at one input. -/
def postingTellsWrong : ChangeSpec := { name := "postingTells", fn := fun _ => fun
  | [d1, d2, d3, d4, d5] => { results := [.lit (.bool false)], args := [d1, d2, d3, d4, d5] }
  | _ => none }
def PostingTellsWrongFalsely : Prop := postingTellsRow.holds Try.pinned (OpenSpec.ofChange postingTellsWrong)

/-- 'quittancelaw24.PostingChains': WHATEVER THE INPUT: true; the input reads as it did. -/
def postingChainsSpec : ChangeSpec := { name := "postingChains", fn := fun _ => fun
  | [d] => { results := [.lit (.bool true)], args := [d] }
  | _ => none }
def postingChainsRow : OpenClaim := { program := "ytepbibbeifbokaa", sum := "b8cb32ccc6a8d3b04f9569d399b37868f5dc1bcada35f221478f085d727a879a", func := "quittance/quittancelaw24.PostingChains", spec := "postingChains", unfollowed := true, recurses := true, apart := false }
def PostingChainsSaid : Prop := postingChainsRow.holds Try.pinned (OpenSpec.ofChange postingChainsSpec)

/-- ITS FALSE NEIGHBOUR: 'it returns false'. Refute it at one input. -/
def postingChainsWrong : ChangeSpec := { name := "postingChains", fn := fun _ => fun
  | [d] => { results := [.lit (.bool false)], args := [d] }
  | _ => none }
def PostingChainsWrongFalsely : Prop := postingChainsRow.holds Try.pinned (OpenSpec.ofChange postingChainsWrong)

/-- 'quittancelaw16.WaterfallTells': WHATEVER THE INPUT: true; the input reads as it did. -/
def waterfallTellsSpec : ChangeSpec := { name := "waterfallTells", fn := fun _ => fun
  | [d1, d2, d3] => { results := [.lit (.bool true)], args := [d1, d2, d3] }
  | _ => none }
def waterfallTellsRow : OpenClaim := { program := "ytepbibbeifbokaa", sum := "b8cb32ccc6a8d3b04f9569d399b37868f5dc1bcada35f221478f085d727a879a", func := "quittance/quittancelaw16.WaterfallTells", spec := "waterfallTells", unfollowed := true, recurses := true, apart := false }
def WaterfallTellsSaid : Prop := waterfallTellsRow.holds Try.pinned (OpenSpec.ofChange waterfallTellsSpec)

/-- ITS FALSE NEIGHBOUR: 'it returns false'. Refute it at one input. -/
def waterfallTellsWrong : ChangeSpec := { name := "waterfallTells", fn := fun _ => fun
  | [d1, d2, d3] => { results := [.lit (.bool false)], args := [d1, d2, d3] }
  | _ => none }
def WaterfallTellsWrongFalsely : Prop := waterfallTellsRow.holds Try.pinned (OpenSpec.ofChange waterfallTellsWrong)

/-- 'quittancelaw16.WaterfallSteps': WHATEVER THE INPUT: true; the input reads as it did. -/
def waterfallStepsSpec : ChangeSpec := { name := "waterfallSteps", fn := fun _ => fun
  | [d1, d2, d3, d4] => { results := [.lit (.bool true)], args := [d1, d2, d3, d4] }
  | _ => none }
def waterfallStepsRow : OpenClaim := { program := "ytepbibbeifbokaa", sum := "b8cb32ccc6a8d3b04f9569d399b37868f5dc1bcada35f221478f085d727a879a", func := "quittance/quittancelaw16.WaterfallSteps", spec := "waterfallSteps", unfollowed := true, recurses := true, apart := false }
def WaterfallStepsSaid : Prop := waterfallStepsRow.holds Try.pinned (OpenSpec.ofChange waterfallStepsSpec)

/-- ITS FALSE NEIGHBOUR: 'it returns false'. Refute it at one input. -/
def waterfallStepsWrong : ChangeSpec := { name := "waterfallSteps", fn := fun _ => fun
  | [d1, d2, d3, d4] => { results := [.lit (.bool false)], args := [d1, d2, d3, d4] }
  | _ => none }
def WaterfallStepsWrongFalsely : Prop := waterfallStepsRow.holds Try.pinned (OpenSpec.ofChange waterfallStepsWrong)

/-- 'quittancelaw16.WaterfallOldest': WHATEVER THE INPUT: true; the input reads as it did. -/
def waterfallOldestSpec : ChangeSpec := { name := "waterfallOldest", fn := fun _ => fun
  | [d1, d2, d3] => { results := [.lit (.bool true)], args := [d1, d2, d3] }
  | _ => none }
def waterfallOldestRow : OpenClaim := { program := "ytepbibbeifbokaa", sum := "b8cb32ccc6a8d3b04f9569d399b37868f5dc1bcada35f221478f085d727a879a", func := "quittance/quittancelaw16.WaterfallOldest", spec := "waterfallOldest", unfollowed := true, recurses := true, apart := false }
def WaterfallOldestSaid : Prop := waterfallOldestRow.holds Try.pinned (OpenSpec.ofChange waterfallOldestSpec)

/-- ITS FALSE NEIGHBOUR: 'it returns false'. Refute it at one input. -/
def waterfallOldestWrong : ChangeSpec := { name := "waterfallOldest", fn := fun _ => fun
  | [d1, d2, d3] => { results := [.lit (.bool false)], args := [d1, d2, d3] }
  | _ => none }
def WaterfallOldestWrongFalsely : Prop := waterfallOldestRow.holds Try.pinned (OpenSpec.ofChange waterfallOldestWrong)

/-- 'quittancelaw16.WaterfallExact': WHATEVER THE INPUT: true; the input reads as it did. -/
def waterfallExactSpec : ChangeSpec := { name := "waterfallExact", fn := fun _ => fun
  | [d1, d2] => { results := [.lit (.bool true)], args := [d1, d2] }
  | _ => none }
def waterfallExactRow : OpenClaim := { program := "ytepbibbeifbokaa", sum := "b8cb32ccc6a8d3b04f9569d399b37868f5dc1bcada35f221478f085d727a879a", func := "quittance/quittancelaw16.WaterfallExact", spec := "waterfallExact", unfollowed := true, recurses := true, apart := false }
def WaterfallExactSaid : Prop := waterfallExactRow.holds Try.pinned (OpenSpec.ofChange waterfallExactSpec)

/-- ITS FALSE NEIGHBOUR: 'it returns false'. Refute it at one input. -/
def waterfallExactWrong : ChangeSpec := { name := "waterfallExact", fn := fun _ => fun
  | [d1, d2] => { results := [.lit (.bool false)], args := [d1, d2] }
  | _ => none }
def WaterfallExactWrongFalsely : Prop := waterfallExactRow.holds Try.pinned (OpenSpec.ofChange waterfallExactWrong)

/- THE SECOND FORM. 'bulk': how many values and letters a reading holds, each counted each time it is reached (what is shared counts as often as it is met; a slice's spare places count too). A statement '..UptoSaid' is the law's where the arguments, and the package variables that the reading takes, are together of bulk at most 1048576: NARROWER than '..Said'. Prove '..Said' where nothing that the law and all that it calls make is longer than what came in: it says more and counts as full. Else prove '..UptoSaid'. A law counts once. -/
mutual
def uptoBulk {H : Type} : DataW H → Nat
  | .lit (.string bytes) => bytes.length + 1
  | .lit _ => 1
  | .nil => 1
  | .ptr d => uptoBulk d + 1
  | .slice elems spare => uptoBulkAll elems + uptoBulkAll spare + 1
  | .agg parts => uptoBulkAll parts + 1
  | .iface _ d => uptoBulk d + 1
  | .map entries => uptoBulkEntries entries + 1
  | .held _ => 1
def uptoBulkAll {H : Type} : List (DataW H) → Nat
  | [] => 0
  | d :: r => uptoBulk d + uptoBulkAll r
def uptoBulkEntries {H : Type} : List (Lit × DataW H) → Nat
  | [] => 0
  | x :: r => uptoBulkEntry x + uptoBulkEntries r
def uptoBulkEntry {H : Type} : Lit × DataW H → Nat
  | (.string bytes, d) => bytes.length + uptoBulk d + 1
  | (_, d) => uptoBulk d + 1
 end
def uptoSmall : (H : Type) → List (DataW H) → Bool := fun _ ds => decide (uptoBulkAll ds ≤ 1048576)
def OpenSpec.upto (s : _root_.Go.ChangeSpec) : _root_.Go.OpenSpec := { _root_.Go.OpenSpec.ofChange s with cond := some uptoSmall }

/-- 'quittancelaw16.WaterfallAll', WHERE WHAT IT READS IS OF BULK AT MOST 1048576: true; the input reads as it did. -/
def waterfallAllUptoRow : OpenClaim := { program := "ytepbibbeifbokaa", sum := "b8cb32ccc6a8d3b04f9569d399b37868f5dc1bcada35f221478f085d727a879a", func := "quittance/quittancelaw16.WaterfallAll", spec := "waterfallAll", unfollowed := true, recurses := true, apart := false, narrowed := true }
def WaterfallAllUptoSaid : Prop := waterfallAllUptoRow.holds Try.pinned (OpenSpec.upto waterfallAllSpec)

/-- 'quittancelaw16.WaterfallOrders', WHERE WHAT IT READS IS OF BULK AT MOST 1048576: true; the input reads as it did. -/
def waterfallOrdersUptoRow : OpenClaim := { program := "ytepbibbeifbokaa", sum := "b8cb32ccc6a8d3b04f9569d399b37868f5dc1bcada35f221478f085d727a879a", func := "quittance/quittancelaw16.WaterfallOrders", spec := "waterfallOrders", unfollowed := true, recurses := true, apart := false, narrowed := true }
def WaterfallOrdersUptoSaid : Prop := waterfallOrdersUptoRow.holds Try.pinned (OpenSpec.upto waterfallOrdersSpec)

/-- 'quittancelaw15.BucketsSum', WHERE WHAT IT READS IS OF BULK AT MOST 1048576: true; the input reads as it did. -/
def bucketsSumUptoRow : OpenClaim := { program := "ytepbibbeifbokaa", sum := "b8cb32ccc6a8d3b04f9569d399b37868f5dc1bcada35f221478f085d727a879a", func := "quittance/quittancelaw15.BucketsSum", spec := "bucketsSum", unfollowed := true, recurses := true, apart := false, narrowed := true }
def BucketsSumUptoSaid : Prop := bucketsSumUptoRow.holds Try.pinned (OpenSpec.upto bucketsSumSpec)

/-- 'quittancelaw15.BucketsWrong', WHERE WHAT IT READS IS OF BULK AT MOST 1048576: true; the input reads as it did. -/
def bucketsWrongUptoRow : OpenClaim := { program := "ytepbibbeifbokaa", sum := "b8cb32ccc6a8d3b04f9569d399b37868f5dc1bcada35f221478f085d727a879a", func := "quittance/quittancelaw15.BucketsWrong", spec := "bucketsWrong", unfollowed := true, recurses := true, apart := false, narrowed := true }
def BucketsWrongUptoSaid : Prop := bucketsWrongUptoRow.holds Try.pinned (OpenSpec.upto bucketsWrongSpec)

/-- 'quittancelaw15.BucketsBounds', WHERE WHAT IT READS IS OF BULK AT MOST 1048576: true; the input reads as it did. -/
def bucketsBoundsUptoRow : OpenClaim := { program := "ytepbibbeifbokaa", sum := "b8cb32ccc6a8d3b04f9569d399b37868f5dc1bcada35f221478f085d727a879a", func := "quittance/quittancelaw15.BucketsBounds", spec := "bucketsBounds", unfollowed := true, recurses := true, apart := false, narrowed := true }
def BucketsBoundsUptoSaid : Prop := bucketsBoundsUptoRow.holds Try.pinned (OpenSpec.upto bucketsBoundsSpec)

/-- 'quittancelaw24.PostingBalanced', WHERE WHAT IT READS IS OF BULK AT MOST 1048576: true; the input reads as it did. -/
def postingBalancedUptoRow : OpenClaim := { program := "ytepbibbeifbokaa", sum := "b8cb32ccc6a8d3b04f9569d399b37868f5dc1bcada35f221478f085d727a879a", func := "quittance/quittancelaw24.PostingBalanced", spec := "postingBalanced", unfollowed := true, recurses := true, apart := false, narrowed := true }
def PostingBalancedUptoSaid : Prop := postingBalancedUptoRow.holds Try.pinned (OpenSpec.upto postingBalancedSpec)

/-- 'quittancelaw24.PostingSums', WHERE WHAT IT READS IS OF BULK AT MOST 1048576: true; the input reads as it did. -/
def postingSumsUptoRow : OpenClaim := { program := "ytepbibbeifbokaa", sum := "b8cb32ccc6a8d3b04f9569d399b37868f5dc1bcada35f221478f085d727a879a", func := "quittance/quittancelaw24.PostingSums", spec := "postingSums", unfollowed := true, recurses := true, apart := false, narrowed := true }
def PostingSumsUptoSaid : Prop := postingSumsUptoRow.holds Try.pinned (OpenSpec.upto postingSumsSpec)

/-- 'quittancelaw15.BucketsTell', WHERE WHAT IT READS IS OF BULK AT MOST 1048576: true; the input reads as it did. -/
def bucketsTellUptoRow : OpenClaim := { program := "ytepbibbeifbokaa", sum := "b8cb32ccc6a8d3b04f9569d399b37868f5dc1bcada35f221478f085d727a879a", func := "quittance/quittancelaw15.BucketsTell", spec := "bucketsTell", unfollowed := true, recurses := true, apart := false, narrowed := true }
def BucketsTellUptoSaid : Prop := bucketsTellUptoRow.holds Try.pinned (OpenSpec.upto bucketsTellSpec)

/-- 'quittancelaw24.PostingTells', WHERE WHAT IT READS IS OF BULK AT MOST 1048576: true; the input reads as it did. -/
def postingTellsUptoRow : OpenClaim := { program := "ytepbibbeifbokaa", sum := "b8cb32ccc6a8d3b04f9569d399b37868f5dc1bcada35f221478f085d727a879a", func := "quittance/quittancelaw24.PostingTells", spec := "postingTells", unfollowed := true, recurses := true, apart := false, narrowed := true }
def PostingTellsUptoSaid : Prop := postingTellsUptoRow.holds Try.pinned (OpenSpec.upto postingTellsSpec)

/-- 'quittancelaw24.PostingChains', WHERE WHAT IT READS IS OF BULK AT MOST 1048576: true; the input reads as it did. -/
def postingChainsUptoRow : OpenClaim := { program := "ytepbibbeifbokaa", sum := "b8cb32ccc6a8d3b04f9569d399b37868f5dc1bcada35f221478f085d727a879a", func := "quittance/quittancelaw24.PostingChains", spec := "postingChains", unfollowed := true, recurses := true, apart := false, narrowed := true }
def PostingChainsUptoSaid : Prop := postingChainsUptoRow.holds Try.pinned (OpenSpec.upto postingChainsSpec)

/-- 'quittancelaw16.WaterfallTells', WHERE WHAT IT READS IS OF BULK AT MOST 1048576: true; the input reads as it did. -/
def waterfallTellsUptoRow : OpenClaim := { program := "ytepbibbeifbokaa", sum := "b8cb32ccc6a8d3b04f9569d399b37868f5dc1bcada35f221478f085d727a879a", func := "quittance/quittancelaw16.WaterfallTells", spec := "waterfallTells", unfollowed := true, recurses := true, apart := false, narrowed := true }
def WaterfallTellsUptoSaid : Prop := waterfallTellsUptoRow.holds Try.pinned (OpenSpec.upto waterfallTellsSpec)

/-- 'quittancelaw16.WaterfallSteps', WHERE WHAT IT READS IS OF BULK AT MOST 1048576: true; the input reads as it did. -/
def waterfallStepsUptoRow : OpenClaim := { program := "ytepbibbeifbokaa", sum := "b8cb32ccc6a8d3b04f9569d399b37868f5dc1bcada35f221478f085d727a879a", func := "quittance/quittancelaw16.WaterfallSteps", spec := "waterfallSteps", unfollowed := true, recurses := true, apart := false, narrowed := true }
def WaterfallStepsUptoSaid : Prop := waterfallStepsUptoRow.holds Try.pinned (OpenSpec.upto waterfallStepsSpec)

/-- 'quittancelaw16.WaterfallOldest', WHERE WHAT IT READS IS OF BULK AT MOST 1048576: true; the input reads as it did. -/
def waterfallOldestUptoRow : OpenClaim := { program := "ytepbibbeifbokaa", sum := "b8cb32ccc6a8d3b04f9569d399b37868f5dc1bcada35f221478f085d727a879a", func := "quittance/quittancelaw16.WaterfallOldest", spec := "waterfallOldest", unfollowed := true, recurses := true, apart := false, narrowed := true }
def WaterfallOldestUptoSaid : Prop := waterfallOldestUptoRow.holds Try.pinned (OpenSpec.upto waterfallOldestSpec)

/-- 'quittancelaw16.WaterfallExact', WHERE WHAT IT READS IS OF BULK AT MOST 1048576: true; the input reads as it did. -/
def waterfallExactUptoRow : OpenClaim := { program := "ytepbibbeifbokaa", sum := "b8cb32ccc6a8d3b04f9569d399b37868f5dc1bcada35f221478f085d727a879a", func := "quittance/quittancelaw16.WaterfallExact", spec := "waterfallExact", unfollowed := true, recurses := true, apart := false, narrowed := true }
def WaterfallExactUptoSaid : Prop := waterfallExactUptoRow.holds Try.pinned (OpenSpec.upto waterfallExactSpec)

end Rows
end Go.Proofs.Ytepbibbeifbokaa
