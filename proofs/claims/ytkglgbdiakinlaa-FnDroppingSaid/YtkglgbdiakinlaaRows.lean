/-
  No cell of these rows narrows 'for every input' (looked for: loops, veiled, ifaces, maps, wideKeys, modest, calm, conditions, laid).
  DERIVED. THE GIVEN ROWS OF THIS SEAT. 13 by the template 'for every input the law returns true; each argument reads behind the call as it read before'; 0 by the template 'total and deterministic' (their statements: YtkglgbdiakinlaaTotals.lean).
  GIVEN WITH THE SEED: the statements are not yours to turn. If you find one false, say at which input.
  Laid BY PROGRAM, IN A SANDBOX (cutbox-rows.mjs): the forced cells as the released guide's own fill.sh prints them over the translation 079746c5e465fc0c… (all of the seat's roots in one cut). By AI agents, Wed Nov 11 2026. No macro, syntax, notation, axiom, sorry.
-/
import Derived.Test.YtkglgbdiakinlaaChecked
import GoSem.Claim
import GoSem.ClaimJoined
import GoSem.ClaimMapViews
import Derived.JoinedTies
import Derived.KernelRfl
namespace Go.Proofs.Ytkglgbdiakinlaa
/- THE CELL 'sum', in the pinned program and in every row, IS THE sha256 OF THE DUMP (.gsa) THAT YtkglgbdiakinlaaProg.lean LOADS. Nothing in Lean hashes anything: it is a label: what it is worth is what the hold of that sum in a sandbox is worth. -/
noncomputable def Try.pinned : Pinned := { name := "ytkglgbdiakinlaa", sum := "079746c5e465fc0cb18261f6afe989ff4fc9b8666ad926abf0a54bc3f11a9ad7", checked := Try.checked }
namespace Rows
def none {H : Type} : Left H := { results := [], args := [] }

/-- 'laws.FnExactMakeSwap': WHATEVER THE INPUT: true; the input reads as it did. -/
def fnExactMakeSwapSpec : ChangeSpec := { name := "fnExactMakeSwap", fn := fun _ => fun
  | [d] => { results := [.lit (.bool true)], args := [d] }
  | _ => none }
def fnExactMakeSwapRow : OpenClaim := { program := "ytkglgbdiakinlaa", sum := "079746c5e465fc0cb18261f6afe989ff4fc9b8666ad926abf0a54bc3f11a9ad7", func := "loop.example/g03304/laws.FnExactMakeSwap", spec := "fnExactMakeSwap", apart := false }
def FnExactMakeSwapSaid : Prop := fnExactMakeSwapRow.holds Try.pinned (OpenSpec.ofChange fnExactMakeSwapSpec)

/-- ITS FALSE NEIGHBOUR: 'it returns false'. Refute it at one input. -/
def fnExactMakeSwapWrong : ChangeSpec := { name := "fnExactMakeSwap", fn := fun _ => fun
  | [d] => { results := [.lit (.bool false)], args := [d] }
  | _ => none }
def FnExactMakeSwapWrongFalsely : Prop := fnExactMakeSwapRow.holds Try.pinned (OpenSpec.ofChange fnExactMakeSwapWrong)

/-- 'laws.FnExactMeetingPlan': WHATEVER THE INPUT: true; the input reads as it did. -/
def fnExactMeetingPlanSpec : ChangeSpec := { name := "fnExactMeetingPlan", fn := fun _ => fun
  | [d] => { results := [.lit (.bool true)], args := [d] }
  | _ => none }
def fnExactMeetingPlanRow : OpenClaim := { program := "ytkglgbdiakinlaa", sum := "079746c5e465fc0cb18261f6afe989ff4fc9b8666ad926abf0a54bc3f11a9ad7", func := "loop.example/g03304/laws.FnExactMeetingPlan", spec := "fnExactMeetingPlan", apart := false }
def FnExactMeetingPlanSaid : Prop := fnExactMeetingPlanRow.holds Try.pinned (OpenSpec.ofChange fnExactMeetingPlanSpec)

/-- ITS FALSE NEIGHBOUR: 'it returns false'. Refute it at one input. -/
def fnExactMeetingPlanWrong : ChangeSpec := { name := "fnExactMeetingPlan", fn := fun _ => fun
  | [d] => { results := [.lit (.bool false)], args := [d] }
  | _ => none }
def FnExactMeetingPlanWrongFalsely : Prop := fnExactMeetingPlanRow.holds Try.pinned (OpenSpec.ofChange fnExactMeetingPlanWrong)

/-- 'laws.FnExactIdleIn': WHATEVER THE INPUT: true; the input reads as it did. -/
def fnExactIdleInSpec : ChangeSpec := { name := "fnExactIdleIn", fn := fun _ => fun
  | [d] => { results := [.lit (.bool true)], args := [d] }
  | _ => none }
def fnExactIdleInRow : OpenClaim := { program := "ytkglgbdiakinlaa", sum := "079746c5e465fc0cb18261f6afe989ff4fc9b8666ad926abf0a54bc3f11a9ad7", func := "loop.example/g03304/laws.FnExactIdleIn", spec := "fnExactIdleIn", apart := false }
def FnExactIdleInSaid : Prop := fnExactIdleInRow.holds Try.pinned (OpenSpec.ofChange fnExactIdleInSpec)

/-- ITS FALSE NEIGHBOUR: 'it returns false'. Refute it at one input. -/
def fnExactIdleInWrong : ChangeSpec := { name := "fnExactIdleIn", fn := fun _ => fun
  | [d] => { results := [.lit (.bool false)], args := [d] }
  | _ => none }
def FnExactIdleInWrongFalsely : Prop := fnExactIdleInRow.holds Try.pinned (OpenSpec.ofChange fnExactIdleInWrong)

/-- 'laws.FnExactRepeatedPairs': WHATEVER THE INPUT: true; the input reads as it did. -/
def fnExactRepeatedPairsSpec : ChangeSpec := { name := "fnExactRepeatedPairs", fn := fun _ => fun
  | [d1, d2] => { results := [.lit (.bool true)], args := [d1, d2] }
  | _ => none }
def fnExactRepeatedPairsRow : OpenClaim := { program := "ytkglgbdiakinlaa", sum := "079746c5e465fc0cb18261f6afe989ff4fc9b8666ad926abf0a54bc3f11a9ad7", func := "loop.example/g03304/laws.FnExactRepeatedPairs", spec := "fnExactRepeatedPairs", apart := false }
def FnExactRepeatedPairsSaid : Prop := fnExactRepeatedPairsRow.holds Try.pinned (OpenSpec.ofChange fnExactRepeatedPairsSpec)

/-- ITS FALSE NEIGHBOUR: 'it returns false'. Refute it at one input. -/
def fnExactRepeatedPairsWrong : ChangeSpec := { name := "fnExactRepeatedPairs", fn := fun _ => fun
  | [d1, d2] => { results := [.lit (.bool false)], args := [d1, d2] }
  | _ => none }
def FnExactRepeatedPairsWrongFalsely : Prop := fnExactRepeatedPairsRow.holds Try.pinned (OpenSpec.ofChange fnExactRepeatedPairsWrong)

/-- 'laws.FnExactRoundsOk': WHATEVER THE INPUT: true; the input reads as it did. -/
def fnExactRoundsOkSpec : ChangeSpec := { name := "fnExactRoundsOk", fn := fun _ => fun
  | [d1, d2] => { results := [.lit (.bool true)], args := [d1, d2] }
  | _ => none }
def fnExactRoundsOkRow : OpenClaim := { program := "ytkglgbdiakinlaa", sum := "079746c5e465fc0cb18261f6afe989ff4fc9b8666ad926abf0a54bc3f11a9ad7", func := "loop.example/g03304/laws.FnExactRoundsOk", spec := "fnExactRoundsOk", apart := false }
def FnExactRoundsOkSaid : Prop := fnExactRoundsOkRow.holds Try.pinned (OpenSpec.ofChange fnExactRoundsOkSpec)

/-- ITS FALSE NEIGHBOUR: 'it returns false'. Refute it at one input. -/
def fnExactRoundsOkWrong : ChangeSpec := { name := "fnExactRoundsOk", fn := fun _ => fun
  | [d1, d2] => { results := [.lit (.bool false)], args := [d1, d2] }
  | _ => none }
def FnExactRoundsOkWrongFalsely : Prop := fnExactRoundsOkRow.holds Try.pinned (OpenSpec.ofChange fnExactRoundsOkWrong)

/-- 'laws.FnExactArePairs': WHATEVER THE INPUT: true; the input reads as it did. -/
def fnExactArePairsSpec : ChangeSpec := { name := "fnExactArePairs", fn := fun _ => fun
  | [d1, d2] => { results := [.lit (.bool true)], args := [d1, d2] }
  | _ => none }
def fnExactArePairsRow : OpenClaim := { program := "ytkglgbdiakinlaa", sum := "079746c5e465fc0cb18261f6afe989ff4fc9b8666ad926abf0a54bc3f11a9ad7", func := "loop.example/g03304/laws.FnExactArePairs", spec := "fnExactArePairs", apart := false }
def FnExactArePairsSaid : Prop := fnExactArePairsRow.holds Try.pinned (OpenSpec.ofChange fnExactArePairsSpec)

/-- ITS FALSE NEIGHBOUR: 'it returns false'. Refute it at one input. -/
def fnExactArePairsWrong : ChangeSpec := { name := "fnExactArePairs", fn := fun _ => fun
  | [d1, d2] => { results := [.lit (.bool false)], args := [d1, d2] }
  | _ => none }
def FnExactArePairsWrongFalsely : Prop := fnExactArePairsRow.holds Try.pinned (OpenSpec.ofChange fnExactArePairsWrong)

/-- 'laws.FnExactMissingPairs': WHATEVER THE INPUT: true; the input reads as it did. -/
def fnExactMissingPairsSpec : ChangeSpec := { name := "fnExactMissingPairs", fn := fun _ => fun
  | [d1, d2] => { results := [.lit (.bool true)], args := [d1, d2] }
  | _ => none }
def fnExactMissingPairsRow : OpenClaim := { program := "ytkglgbdiakinlaa", sum := "079746c5e465fc0cb18261f6afe989ff4fc9b8666ad926abf0a54bc3f11a9ad7", func := "loop.example/g03304/laws.FnExactMissingPairs", spec := "fnExactMissingPairs", unfollowed := true, recurses := true, apart := false }
def FnExactMissingPairsSaid : Prop := fnExactMissingPairsRow.holds Try.pinned (OpenSpec.ofChange fnExactMissingPairsSpec)

/-- ITS FALSE NEIGHBOUR: 'it returns false'. Refute it at one input. -/
def fnExactMissingPairsWrong : ChangeSpec := { name := "fnExactMissingPairs", fn := fun _ => fun
  | [d1, d2] => { results := [.lit (.bool false)], args := [d1, d2] }
  | _ => none }
def FnExactMissingPairsWrongFalsely : Prop := fnExactMissingPairsRow.holds Try.pinned (OpenSpec.ofChange fnExactMissingPairsWrong)

/-- 'laws.FnExactOwedAfter': WHATEVER THE INPUT: true; the input reads as it did. -/
def fnExactOwedAfterSpec : ChangeSpec := { name := "fnExactOwedAfter", fn := fun _ => fun
  | [d1, d2, d3] => { results := [.lit (.bool true)], args := [d1, d2, d3] }
  | _ => none }
def fnExactOwedAfterRow : OpenClaim := { program := "ytkglgbdiakinlaa", sum := "079746c5e465fc0cb18261f6afe989ff4fc9b8666ad926abf0a54bc3f11a9ad7", func := "loop.example/g03304/laws.FnExactOwedAfter", spec := "fnExactOwedAfter", unfollowed := true, recurses := true, apart := false }
def FnExactOwedAfterSaid : Prop := fnExactOwedAfterRow.holds Try.pinned (OpenSpec.ofChange fnExactOwedAfterSpec)

/-- ITS FALSE NEIGHBOUR: 'it returns false'. Refute it at one input. -/
def fnExactOwedAfterWrong : ChangeSpec := { name := "fnExactOwedAfter", fn := fun _ => fun
  | [d1, d2, d3] => { results := [.lit (.bool false)], args := [d1, d2, d3] }
  | _ => none }
def FnExactOwedAfterWrongFalsely : Prop := fnExactOwedAfterRow.holds Try.pinned (OpenSpec.ofChange fnExactOwedAfterWrong)

/-- 'laws.FnExactIsFair': WHATEVER THE INPUT: true; the input reads as it did. -/
def fnExactIsFairSpec : ChangeSpec := { name := "fnExactIsFair", fn := fun _ => fun
  | [d1, d2] => { results := [.lit (.bool true)], args := [d1, d2] }
  | _ => none }
def fnExactIsFairRow : OpenClaim := { program := "ytkglgbdiakinlaa", sum := "079746c5e465fc0cb18261f6afe989ff4fc9b8666ad926abf0a54bc3f11a9ad7", func := "loop.example/g03304/laws.FnExactIsFair", spec := "fnExactIsFair", apart := false }
def FnExactIsFairSaid : Prop := fnExactIsFairRow.holds Try.pinned (OpenSpec.ofChange fnExactIsFairSpec)

/-- ITS FALSE NEIGHBOUR: 'it returns false'. Refute it at one input. -/
def fnExactIsFairWrong : ChangeSpec := { name := "fnExactIsFair", fn := fun _ => fun
  | [d1, d2] => { results := [.lit (.bool false)], args := [d1, d2] }
  | _ => none }
def FnExactIsFairWrongFalsely : Prop := fnExactIsFairRow.holds Try.pinned (OpenSpec.ofChange fnExactIsFairWrong)

/-- 'laws.FnExactReceivedBy': WHATEVER THE INPUT: true; the input reads as it did. -/
def fnExactReceivedBySpec : ChangeSpec := { name := "fnExactReceivedBy", fn := fun _ => fun
  | [d1, d2, d3] => { results := [.lit (.bool true)], args := [d1, d2, d3] }
  | _ => none }
def fnExactReceivedByRow : OpenClaim := { program := "ytkglgbdiakinlaa", sum := "079746c5e465fc0cb18261f6afe989ff4fc9b8666ad926abf0a54bc3f11a9ad7", func := "loop.example/g03304/laws.FnExactReceivedBy", spec := "fnExactReceivedBy", apart := false }
def FnExactReceivedBySaid : Prop := fnExactReceivedByRow.holds Try.pinned (OpenSpec.ofChange fnExactReceivedBySpec)

/-- ITS FALSE NEIGHBOUR: 'it returns false'. Refute it at one input. -/
def fnExactReceivedByWrong : ChangeSpec := { name := "fnExactReceivedBy", fn := fun _ => fun
  | [d1, d2, d3] => { results := [.lit (.bool false)], args := [d1, d2, d3] }
  | _ => none }
def FnExactReceivedByWrongFalsely : Prop := fnExactReceivedByRow.holds Try.pinned (OpenSpec.ofChange fnExactReceivedByWrong)

/-- 'laws.FnExactDropMember': WHATEVER THE INPUT: true; the input reads as it did. -/
def fnExactDropMemberSpec : ChangeSpec := { name := "fnExactDropMember", fn := fun _ => fun
  | [d1, d2, d3] => { results := [.lit (.bool true)], args := [d1, d2, d3] }
  | _ => none }
def fnExactDropMemberRow : OpenClaim := { program := "ytkglgbdiakinlaa", sum := "079746c5e465fc0cb18261f6afe989ff4fc9b8666ad926abf0a54bc3f11a9ad7", func := "loop.example/g03304/laws.FnExactDropMember", spec := "fnExactDropMember", apart := false }
def FnExactDropMemberSaid : Prop := fnExactDropMemberRow.holds Try.pinned (OpenSpec.ofChange fnExactDropMemberSpec)

/-- ITS FALSE NEIGHBOUR: 'it returns false'. Refute it at one input. -/
def fnExactDropMemberWrong : ChangeSpec := { name := "fnExactDropMember", fn := fun _ => fun
  | [d1, d2, d3] => { results := [.lit (.bool false)], args := [d1, d2, d3] }
  | _ => none }
def FnExactDropMemberWrongFalsely : Prop := fnExactDropMemberRow.holds Try.pinned (OpenSpec.ofChange fnExactDropMemberWrong)

/-- 'laws.FnSwaps': WHATEVER THE INPUT: true; the input reads as it did. -/
def fnSwapsSpec : ChangeSpec := { name := "fnSwaps", fn := fun _ => fun
  | [d] => { results := [.lit (.bool true)], args := [d] }
  | _ => none }
def fnSwapsRow : OpenClaim := { program := "ytkglgbdiakinlaa", sum := "079746c5e465fc0cb18261f6afe989ff4fc9b8666ad926abf0a54bc3f11a9ad7", func := "loop.example/g03304/laws.FnSwaps", spec := "fnSwaps", apart := false }
def FnSwapsSaid : Prop := fnSwapsRow.holds Try.pinned (OpenSpec.ofChange fnSwapsSpec)

/-- ITS FALSE NEIGHBOUR: 'it returns false'. Refute it at one input. -/
def fnSwapsWrong : ChangeSpec := { name := "fnSwaps", fn := fun _ => fun
  | [d] => { results := [.lit (.bool false)], args := [d] }
  | _ => none }
def FnSwapsWrongFalsely : Prop := fnSwapsRow.holds Try.pinned (OpenSpec.ofChange fnSwapsWrong)

/-- 'laws.FnDropping': WHATEVER THE INPUT: true; the input reads as it did. -/
def fnDroppingSpec : ChangeSpec := { name := "fnDropping", fn := fun _ => fun
  | [d] => { results := [.lit (.bool true)], args := [d] }
  | _ => none }
def fnDroppingRow : OpenClaim := { program := "ytkglgbdiakinlaa", sum := "079746c5e465fc0cb18261f6afe989ff4fc9b8666ad926abf0a54bc3f11a9ad7", func := "loop.example/g03304/laws.FnDropping", spec := "fnDropping", unfollowed := true, recurses := true, apart := false }
def FnDroppingSaid : Prop := fnDroppingRow.holds Try.pinned (OpenSpec.ofChange fnDroppingSpec)

/-- ITS FALSE NEIGHBOUR: 'it returns false'. Refute it at one input. -/
def fnDroppingWrong : ChangeSpec := { name := "fnDropping", fn := fun _ => fun
  | [d] => { results := [.lit (.bool false)], args := [d] }
  | _ => none }
def FnDroppingWrongFalsely : Prop := fnDroppingRow.holds Try.pinned (OpenSpec.ofChange fnDroppingWrong)

/- THE SECOND FORM. 'bulk': how many values and letters a reading holds, each counted each time it is reached (what is shared counts as often as it is met; a slice's spare places count too). A statement '..UptoSaid' is the law's where the arguments, and the package variables that the reading takes, are together of bulk at most 1048576: NARROWER than '..Said'. Prove '..Said' where nothing that the law and all that it calls make is longer than what came in: it says more and counts as full. Else prove '..UptoSaid'. A law counts once. -/
mutual
def uptoBulk {H : Type} : DataW H → Nat
  | .lit (.string bytes) => bytes.length + 1
  | .lit _ => 1
  | .nil => 1
  | .ptr d => uptoBulk d + 1
  | .slice elems spare => uptoBulkAll elems + uptoBulkAll spare + 1
  | .agg parts => uptoBulkAll parts + 1
  | .iface _ d => uptoBulk d + 1
  | .map entries => uptoBulkEntries entries + 1
  | .held _ => 1
def uptoBulkAll {H : Type} : List (DataW H) → Nat
  | [] => 0
  | d :: r => uptoBulk d + uptoBulkAll r
def uptoBulkEntries {H : Type} : List (Lit × DataW H) → Nat
  | [] => 0
  | x :: r => uptoBulkEntry x + uptoBulkEntries r
def uptoBulkEntry {H : Type} : Lit × DataW H → Nat
  | (.string bytes, d) => bytes.length + uptoBulk d + 1
  | (_, d) => uptoBulk d + 1
 end
def uptoSmall : (H : Type) → List (DataW H) → Bool := fun _ ds => decide (uptoBulkAll ds ≤ 1048576)
def OpenSpec.upto (s : _root_.Go.ChangeSpec) : _root_.Go.OpenSpec := { _root_.Go.OpenSpec.ofChange s with cond := some uptoSmall }

/-- 'laws.FnExactMakeSwap', WHERE WHAT IT READS IS OF BULK AT MOST 1048576: true; the input reads as it did. -/
def fnExactMakeSwapUptoRow : OpenClaim := { program := "ytkglgbdiakinlaa", sum := "079746c5e465fc0cb18261f6afe989ff4fc9b8666ad926abf0a54bc3f11a9ad7", func := "loop.example/g03304/laws.FnExactMakeSwap", spec := "fnExactMakeSwap", apart := false, narrowed := true }
def FnExactMakeSwapUptoSaid : Prop := fnExactMakeSwapUptoRow.holds Try.pinned (OpenSpec.upto fnExactMakeSwapSpec)

/-- 'laws.FnExactMeetingPlan', WHERE WHAT IT READS IS OF BULK AT MOST 1048576: true; the input reads as it did. -/
def fnExactMeetingPlanUptoRow : OpenClaim := { program := "ytkglgbdiakinlaa", sum := "079746c5e465fc0cb18261f6afe989ff4fc9b8666ad926abf0a54bc3f11a9ad7", func := "loop.example/g03304/laws.FnExactMeetingPlan", spec := "fnExactMeetingPlan", apart := false, narrowed := true }
def FnExactMeetingPlanUptoSaid : Prop := fnExactMeetingPlanUptoRow.holds Try.pinned (OpenSpec.upto fnExactMeetingPlanSpec)

/-- 'laws.FnExactIdleIn', WHERE WHAT IT READS IS OF BULK AT MOST 1048576: true; the input reads as it did. -/
def fnExactIdleInUptoRow : OpenClaim := { program := "ytkglgbdiakinlaa", sum := "079746c5e465fc0cb18261f6afe989ff4fc9b8666ad926abf0a54bc3f11a9ad7", func := "loop.example/g03304/laws.FnExactIdleIn", spec := "fnExactIdleIn", apart := false, narrowed := true }
def FnExactIdleInUptoSaid : Prop := fnExactIdleInUptoRow.holds Try.pinned (OpenSpec.upto fnExactIdleInSpec)

/-- 'laws.FnExactRepeatedPairs', WHERE WHAT IT READS IS OF BULK AT MOST 1048576: true; the input reads as it did. -/
def fnExactRepeatedPairsUptoRow : OpenClaim := { program := "ytkglgbdiakinlaa", sum := "079746c5e465fc0cb18261f6afe989ff4fc9b8666ad926abf0a54bc3f11a9ad7", func := "loop.example/g03304/laws.FnExactRepeatedPairs", spec := "fnExactRepeatedPairs", apart := false, narrowed := true }
def FnExactRepeatedPairsUptoSaid : Prop := fnExactRepeatedPairsUptoRow.holds Try.pinned (OpenSpec.upto fnExactRepeatedPairsSpec)

/-- 'laws.FnExactRoundsOk', WHERE WHAT IT READS IS OF BULK AT MOST 1048576: true; the input reads as it did. -/
def fnExactRoundsOkUptoRow : OpenClaim := { program := "ytkglgbdiakinlaa", sum := "079746c5e465fc0cb18261f6afe989ff4fc9b8666ad926abf0a54bc3f11a9ad7", func := "loop.example/g03304/laws.FnExactRoundsOk", spec := "fnExactRoundsOk", apart := false, narrowed := true }
def FnExactRoundsOkUptoSaid : Prop := fnExactRoundsOkUptoRow.holds Try.pinned (OpenSpec.upto fnExactRoundsOkSpec)

/-- 'laws.FnExactArePairs', WHERE WHAT IT READS IS OF BULK AT MOST 1048576: true; the input reads as it did. -/
def fnExactArePairsUptoRow : OpenClaim := { program := "ytkglgbdiakinlaa", sum := "079746c5e465fc0cb18261f6afe989ff4fc9b8666ad926abf0a54bc3f11a9ad7", func := "loop.example/g03304/laws.FnExactArePairs", spec := "fnExactArePairs", apart := false, narrowed := true }
def FnExactArePairsUptoSaid : Prop := fnExactArePairsUptoRow.holds Try.pinned (OpenSpec.upto fnExactArePairsSpec)

/-- 'laws.FnExactMissingPairs', WHERE WHAT IT READS IS OF BULK AT MOST 1048576: true; the input reads as it did. -/
def fnExactMissingPairsUptoRow : OpenClaim := { program := "ytkglgbdiakinlaa", sum := "079746c5e465fc0cb18261f6afe989ff4fc9b8666ad926abf0a54bc3f11a9ad7", func := "loop.example/g03304/laws.FnExactMissingPairs", spec := "fnExactMissingPairs", unfollowed := true, recurses := true, apart := false, narrowed := true }
def FnExactMissingPairsUptoSaid : Prop := fnExactMissingPairsUptoRow.holds Try.pinned (OpenSpec.upto fnExactMissingPairsSpec)

/-- 'laws.FnExactOwedAfter', WHERE WHAT IT READS IS OF BULK AT MOST 1048576: true; the input reads as it did. -/
def fnExactOwedAfterUptoRow : OpenClaim := { program := "ytkglgbdiakinlaa", sum := "079746c5e465fc0cb18261f6afe989ff4fc9b8666ad926abf0a54bc3f11a9ad7", func := "loop.example/g03304/laws.FnExactOwedAfter", spec := "fnExactOwedAfter", unfollowed := true, recurses := true, apart := false, narrowed := true }
def FnExactOwedAfterUptoSaid : Prop := fnExactOwedAfterUptoRow.holds Try.pinned (OpenSpec.upto fnExactOwedAfterSpec)

/-- 'laws.FnExactIsFair', WHERE WHAT IT READS IS OF BULK AT MOST 1048576: true; the input reads as it did. -/
def fnExactIsFairUptoRow : OpenClaim := { program := "ytkglgbdiakinlaa", sum := "079746c5e465fc0cb18261f6afe989ff4fc9b8666ad926abf0a54bc3f11a9ad7", func := "loop.example/g03304/laws.FnExactIsFair", spec := "fnExactIsFair", apart := false, narrowed := true }
def FnExactIsFairUptoSaid : Prop := fnExactIsFairUptoRow.holds Try.pinned (OpenSpec.upto fnExactIsFairSpec)

/-- 'laws.FnExactReceivedBy', WHERE WHAT IT READS IS OF BULK AT MOST 1048576: true; the input reads as it did. -/
def fnExactReceivedByUptoRow : OpenClaim := { program := "ytkglgbdiakinlaa", sum := "079746c5e465fc0cb18261f6afe989ff4fc9b8666ad926abf0a54bc3f11a9ad7", func := "loop.example/g03304/laws.FnExactReceivedBy", spec := "fnExactReceivedBy", apart := false, narrowed := true }
def FnExactReceivedByUptoSaid : Prop := fnExactReceivedByUptoRow.holds Try.pinned (OpenSpec.upto fnExactReceivedBySpec)

/-- 'laws.FnExactDropMember', WHERE WHAT IT READS IS OF BULK AT MOST 1048576: true; the input reads as it did. -/
def fnExactDropMemberUptoRow : OpenClaim := { program := "ytkglgbdiakinlaa", sum := "079746c5e465fc0cb18261f6afe989ff4fc9b8666ad926abf0a54bc3f11a9ad7", func := "loop.example/g03304/laws.FnExactDropMember", spec := "fnExactDropMember", apart := false, narrowed := true }
def FnExactDropMemberUptoSaid : Prop := fnExactDropMemberUptoRow.holds Try.pinned (OpenSpec.upto fnExactDropMemberSpec)

/-- 'laws.FnSwaps', WHERE WHAT IT READS IS OF BULK AT MOST 1048576: true; the input reads as it did. -/
def fnSwapsUptoRow : OpenClaim := { program := "ytkglgbdiakinlaa", sum := "079746c5e465fc0cb18261f6afe989ff4fc9b8666ad926abf0a54bc3f11a9ad7", func := "loop.example/g03304/laws.FnSwaps", spec := "fnSwaps", apart := false, narrowed := true }
def FnSwapsUptoSaid : Prop := fnSwapsUptoRow.holds Try.pinned (OpenSpec.upto fnSwapsSpec)

/-- 'laws.FnDropping', WHERE WHAT IT READS IS OF BULK AT MOST 1048576: true; the input reads as it did. -/
def fnDroppingUptoRow : OpenClaim := { program := "ytkglgbdiakinlaa", sum := "079746c5e465fc0cb18261f6afe989ff4fc9b8666ad926abf0a54bc3f11a9ad7", func := "loop.example/g03304/laws.FnDropping", spec := "fnDropping", unfollowed := true, recurses := true, apart := false, narrowed := true }
def FnDroppingUptoSaid : Prop := fnDroppingUptoRow.holds Try.pinned (OpenSpec.upto fnDroppingSpec)

end Rows
end Go.Proofs.Ytkglgbdiakinlaa
