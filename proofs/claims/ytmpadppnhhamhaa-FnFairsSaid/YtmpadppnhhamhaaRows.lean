/-
  No cell of these rows narrows 'for every input' (looked for: loops, veiled, ifaces, maps, wideKeys, modest, calm, conditions, laid).
  DERIVED. THE GIVEN ROWS OF THIS SEAT. 7 by the template 'for every input the law returns true; each argument reads behind the call as it read before'; 0 by the template 'total and deterministic' (their statements: YtmpadppnhhamhaaTotals.lean).
  GIVEN WITH THE SEED: the statements are not yours to turn. If you find one false, say at which input.
  Laid BY PROGRAM, IN A SANDBOX (cutbox-rows.mjs): the forced cells as the released guide's own fill.sh prints them over the translation 1b0580772924f466… (all of the seat's roots in one cut). By AI agents, Wed Nov 11 2026. No macro, syntax, notation, axiom, sorry.
-/
import Derived.Test.YtmpadppnhhamhaaChecked
import GoSem.Claim
import GoSem.ClaimJoined
import GoSem.ClaimMapViews
import Derived.JoinedTies
import Derived.KernelRfl
namespace Go.Proofs.Ytmpadppnhhamhaa
/- THE CELL 'sum', in the pinned program and in every row, IS THE sha256 OF THE DUMP (.gsa) THAT YtmpadppnhhamhaaProg.lean LOADS. Nothing in Lean hashes anything: it is a label: what it is worth is what the hold of that sum in a sandbox is worth. -/
noncomputable def Try.pinned : Pinned := { name := "ytmpadppnhhamhaa", sum := "1b0580772924f4669afe882dff8368169158eaa7daa2b18519a0e33aaf1cbfec", checked := Try.checked }
namespace Rows
def none {H : Type} : Left H := { results := [], args := [] }

/-- 'laws.FnExactSheetOk': WHATEVER THE INPUT: true; the input reads as it did. -/
def fnExactSheetOkSpec : ChangeSpec := { name := "fnExactSheetOk", fn := fun _ => fun
  | [d] => { results := [.lit (.bool true)], args := [d] }
  | _ => none }
def fnExactSheetOkRow : OpenClaim := { program := "ytmpadppnhhamhaa", sum := "1b0580772924f4669afe882dff8368169158eaa7daa2b18519a0e33aaf1cbfec", func := "loop.example/g03304/laws.FnExactSheetOk", spec := "fnExactSheetOk", apart := false }
def FnExactSheetOkSaid : Prop := fnExactSheetOkRow.holds Try.pinned (OpenSpec.ofChange fnExactSheetOkSpec)

/-- ITS FALSE NEIGHBOUR: 'it returns false'. Refute it at one input. -/
def fnExactSheetOkWrong : ChangeSpec := { name := "fnExactSheetOk", fn := fun _ => fun
  | [d] => { results := [.lit (.bool false)], args := [d] }
  | _ => none }
def FnExactSheetOkWrongFalsely : Prop := fnExactSheetOkRow.holds Try.pinned (OpenSpec.ofChange fnExactSheetOkWrong)

/-- 'laws.FnExactBeatsByPairs': WHATEVER THE INPUT: true; the input reads as it did. -/
def fnExactBeatsByPairsSpec : ChangeSpec := { name := "fnExactBeatsByPairs", fn := fun _ => fun
  | [d1, d2, d3] => { results := [.lit (.bool true)], args := [d1, d2, d3] }
  | _ => none }
def fnExactBeatsByPairsRow : OpenClaim := { program := "ytmpadppnhhamhaa", sum := "1b0580772924f4669afe882dff8368169158eaa7daa2b18519a0e33aaf1cbfec", func := "loop.example/g03304/laws.FnExactBeatsByPairs", spec := "fnExactBeatsByPairs", apart := false }
def FnExactBeatsByPairsSaid : Prop := fnExactBeatsByPairsRow.holds Try.pinned (OpenSpec.ofChange fnExactBeatsByPairsSpec)

/-- ITS FALSE NEIGHBOUR: 'it returns false'. Refute it at one input. -/
def fnExactBeatsByPairsWrong : ChangeSpec := { name := "fnExactBeatsByPairs", fn := fun _ => fun
  | [d1, d2, d3] => { results := [.lit (.bool false)], args := [d1, d2, d3] }
  | _ => none }
def FnExactBeatsByPairsWrongFalsely : Prop := fnExactBeatsByPairsRow.holds Try.pinned (OpenSpec.ofChange fnExactBeatsByPairsWrong)

/-- 'laws.FnExactTotalsOf': WHATEVER THE INPUT: true; the input reads as it did. -/
def fnExactTotalsOfSpec : ChangeSpec := { name := "fnExactTotalsOf", fn := fun _ => fun
  | [d] => { results := [.lit (.bool true)], args := [d] }
  | _ => none }
def fnExactTotalsOfRow : OpenClaim := { program := "ytmpadppnhhamhaa", sum := "1b0580772924f4669afe882dff8368169158eaa7daa2b18519a0e33aaf1cbfec", func := "loop.example/g03304/laws.FnExactTotalsOf", spec := "fnExactTotalsOf", apart := false }
def FnExactTotalsOfSaid : Prop := fnExactTotalsOfRow.holds Try.pinned (OpenSpec.ofChange fnExactTotalsOfSpec)

/-- ITS FALSE NEIGHBOUR: 'it returns false'. Refute it at one input. -/
def fnExactTotalsOfWrong : ChangeSpec := { name := "fnExactTotalsOf", fn := fun _ => fun
  | [d] => { results := [.lit (.bool false)], args := [d] }
  | _ => none }
def FnExactTotalsOfWrongFalsely : Prop := fnExactTotalsOfRow.holds Try.pinned (OpenSpec.ofChange fnExactTotalsOfWrong)

/-- 'laws.FnExactPairWinner': WHATEVER THE INPUT: true; the input reads as it did. -/
def fnExactPairWinnerSpec : ChangeSpec := { name := "fnExactPairWinner", fn := fun _ => fun
  | [d] => { results := [.lit (.bool true)], args := [d] }
  | _ => none }
def fnExactPairWinnerRow : OpenClaim := { program := "ytmpadppnhhamhaa", sum := "1b0580772924f4669afe882dff8368169158eaa7daa2b18519a0e33aaf1cbfec", func := "loop.example/g03304/laws.FnExactPairWinner", spec := "fnExactPairWinner", apart := false }
def FnExactPairWinnerSaid : Prop := fnExactPairWinnerRow.holds Try.pinned (OpenSpec.ofChange fnExactPairWinnerSpec)

/-- ITS FALSE NEIGHBOUR: 'it returns false'. Refute it at one input. -/
def fnExactPairWinnerWrong : ChangeSpec := { name := "fnExactPairWinner", fn := fun _ => fun
  | [d] => { results := [.lit (.bool false)], args := [d] }
  | _ => none }
def FnExactPairWinnerWrongFalsely : Prop := fnExactPairWinnerRow.holds Try.pinned (OpenSpec.ofChange fnExactPairWinnerWrong)

/-- 'laws.FnExactTrimmedOf': WHATEVER THE INPUT: true; the input reads as it did. -/
def fnExactTrimmedOfSpec : ChangeSpec := { name := "fnExactTrimmedOf", fn := fun _ => fun
  | [d] => { results := [.lit (.bool true)], args := [d] }
  | _ => none }
def fnExactTrimmedOfRow : OpenClaim := { program := "ytmpadppnhhamhaa", sum := "1b0580772924f4669afe882dff8368169158eaa7daa2b18519a0e33aaf1cbfec", func := "loop.example/g03304/laws.FnExactTrimmedOf", spec := "fnExactTrimmedOf", apart := false }
def FnExactTrimmedOfSaid : Prop := fnExactTrimmedOfRow.holds Try.pinned (OpenSpec.ofChange fnExactTrimmedOfSpec)

/-- ITS FALSE NEIGHBOUR: 'it returns false'. Refute it at one input. -/
def fnExactTrimmedOfWrong : ChangeSpec := { name := "fnExactTrimmedOf", fn := fun _ => fun
  | [d] => { results := [.lit (.bool false)], args := [d] }
  | _ => none }
def FnExactTrimmedOfWrongFalsely : Prop := fnExactTrimmedOfRow.holds Try.pinned (OpenSpec.ofChange fnExactTrimmedOfWrong)

/-- 'laws.FnExactRankingOf': WHATEVER THE INPUT: true; the input reads as it did. -/
def fnExactRankingOfSpec : ChangeSpec := { name := "fnExactRankingOf", fn := fun _ => fun
  | [d] => { results := [.lit (.bool true)], args := [d] }
  | _ => none }
def fnExactRankingOfRow : OpenClaim := { program := "ytmpadppnhhamhaa", sum := "1b0580772924f4669afe882dff8368169158eaa7daa2b18519a0e33aaf1cbfec", func := "loop.example/g03304/laws.FnExactRankingOf", spec := "fnExactRankingOf", apart := false }
def FnExactRankingOfSaid : Prop := fnExactRankingOfRow.holds Try.pinned (OpenSpec.ofChange fnExactRankingOfSpec)

/-- ITS FALSE NEIGHBOUR: 'it returns false'. Refute it at one input. -/
def fnExactRankingOfWrong : ChangeSpec := { name := "fnExactRankingOf", fn := fun _ => fun
  | [d] => { results := [.lit (.bool false)], args := [d] }
  | _ => none }
def FnExactRankingOfWrongFalsely : Prop := fnExactRankingOfRow.holds Try.pinned (OpenSpec.ofChange fnExactRankingOfWrong)

/-- 'laws.FnFairs': WHATEVER THE INPUT: true; the input reads as it did. -/
def fnFairsSpec : ChangeSpec := { name := "fnFairs", fn := fun _ => fun
  | [d] => { results := [.lit (.bool true)], args := [d] }
  | _ => none }
def fnFairsRow : OpenClaim := { program := "ytmpadppnhhamhaa", sum := "1b0580772924f4669afe882dff8368169158eaa7daa2b18519a0e33aaf1cbfec", func := "loop.example/g03304/laws.FnFairs", spec := "fnFairs", apart := false }
def FnFairsSaid : Prop := fnFairsRow.holds Try.pinned (OpenSpec.ofChange fnFairsSpec)

/-- ITS FALSE NEIGHBOUR: 'it returns false'. Refute it at one input. -/
def fnFairsWrong : ChangeSpec := { name := "fnFairs", fn := fun _ => fun
  | [d] => { results := [.lit (.bool false)], args := [d] }
  | _ => none }
def FnFairsWrongFalsely : Prop := fnFairsRow.holds Try.pinned (OpenSpec.ofChange fnFairsWrong)

/- THE SECOND FORM. 'bulk': how many values and letters a reading holds, each counted each time it is reached (what is shared counts as often as it is met; a slice's spare places count too). A statement '..UptoSaid' is the law's where the arguments, and the package variables that the reading takes, are together of bulk at most 1048576: NARROWER than '..Said'. Prove '..Said' where nothing that the law and all that it calls make is longer than what came in: it says more and counts as full. Else prove '..UptoSaid'. A law counts once. -/
mutual
def uptoBulk {H : Type} : DataW H → Nat
  | .lit (.string bytes) => bytes.length + 1
  | .lit _ => 1
  | .nil => 1
  | .ptr d => uptoBulk d + 1
  | .slice elems spare => uptoBulkAll elems + uptoBulkAll spare + 1
  | .agg parts => uptoBulkAll parts + 1
  | .iface _ d => uptoBulk d + 1
  | .map entries => uptoBulkEntries entries + 1
  | .held _ => 1
def uptoBulkAll {H : Type} : List (DataW H) → Nat
  | [] => 0
  | d :: r => uptoBulk d + uptoBulkAll r
def uptoBulkEntries {H : Type} : List (Lit × DataW H) → Nat
  | [] => 0
  | x :: r => uptoBulkEntry x + uptoBulkEntries r
def uptoBulkEntry {H : Type} : Lit × DataW H → Nat
  | (.string bytes, d) => bytes.length + uptoBulk d + 1
  | (_, d) => uptoBulk d + 1
 end
def uptoSmall : (H : Type) → List (DataW H) → Bool := fun _ ds => decide (uptoBulkAll ds ≤ 1048576)
def OpenSpec.upto (s : _root_.Go.ChangeSpec) : _root_.Go.OpenSpec := { _root_.Go.OpenSpec.ofChange s with cond := some uptoSmall }

/-- 'laws.FnExactSheetOk', WHERE WHAT IT READS IS OF BULK AT MOST 1048576: true; the input reads as it did. -/
def fnExactSheetOkUptoRow : OpenClaim := { program := "ytmpadppnhhamhaa", sum := "1b0580772924f4669afe882dff8368169158eaa7daa2b18519a0e33aaf1cbfec", func := "loop.example/g03304/laws.FnExactSheetOk", spec := "fnExactSheetOk", apart := false, narrowed := true }
def FnExactSheetOkUptoSaid : Prop := fnExactSheetOkUptoRow.holds Try.pinned (OpenSpec.upto fnExactSheetOkSpec)

/-- 'laws.FnExactBeatsByPairs', WHERE WHAT IT READS IS OF BULK AT MOST 1048576: true; the input reads as it did. -/
def fnExactBeatsByPairsUptoRow : OpenClaim := { program := "ytmpadppnhhamhaa", sum := "1b0580772924f4669afe882dff8368169158eaa7daa2b18519a0e33aaf1cbfec", func := "loop.example/g03304/laws.FnExactBeatsByPairs", spec := "fnExactBeatsByPairs", apart := false, narrowed := true }
def FnExactBeatsByPairsUptoSaid : Prop := fnExactBeatsByPairsUptoRow.holds Try.pinned (OpenSpec.upto fnExactBeatsByPairsSpec)

/-- 'laws.FnExactTotalsOf', WHERE WHAT IT READS IS OF BULK AT MOST 1048576: true; the input reads as it did. -/
def fnExactTotalsOfUptoRow : OpenClaim := { program := "ytmpadppnhhamhaa", sum := "1b0580772924f4669afe882dff8368169158eaa7daa2b18519a0e33aaf1cbfec", func := "loop.example/g03304/laws.FnExactTotalsOf", spec := "fnExactTotalsOf", apart := false, narrowed := true }
def FnExactTotalsOfUptoSaid : Prop := fnExactTotalsOfUptoRow.holds Try.pinned (OpenSpec.upto fnExactTotalsOfSpec)

/-- 'laws.FnExactPairWinner', WHERE WHAT IT READS IS OF BULK AT MOST 1048576: true; the input reads as it did. -/
def fnExactPairWinnerUptoRow : OpenClaim := { program := "ytmpadppnhhamhaa", sum := "1b0580772924f4669afe882dff8368169158eaa7daa2b18519a0e33aaf1cbfec", func := "loop.example/g03304/laws.FnExactPairWinner", spec := "fnExactPairWinner", apart := false, narrowed := true }
def FnExactPairWinnerUptoSaid : Prop := fnExactPairWinnerUptoRow.holds Try.pinned (OpenSpec.upto fnExactPairWinnerSpec)

/-- 'laws.FnExactTrimmedOf', WHERE WHAT IT READS IS OF BULK AT MOST 1048576: true; the input reads as it did. -/
def fnExactTrimmedOfUptoRow : OpenClaim := { program := "ytmpadppnhhamhaa", sum := "1b0580772924f4669afe882dff8368169158eaa7daa2b18519a0e33aaf1cbfec", func := "loop.example/g03304/laws.FnExactTrimmedOf", spec := "fnExactTrimmedOf", apart := false, narrowed := true }
def FnExactTrimmedOfUptoSaid : Prop := fnExactTrimmedOfUptoRow.holds Try.pinned (OpenSpec.upto fnExactTrimmedOfSpec)

/-- 'laws.FnExactRankingOf', WHERE WHAT IT READS IS OF BULK AT MOST 1048576: true; the input reads as it did. -/
def fnExactRankingOfUptoRow : OpenClaim := { program := "ytmpadppnhhamhaa", sum := "1b0580772924f4669afe882dff8368169158eaa7daa2b18519a0e33aaf1cbfec", func := "loop.example/g03304/laws.FnExactRankingOf", spec := "fnExactRankingOf", apart := false, narrowed := true }
def FnExactRankingOfUptoSaid : Prop := fnExactRankingOfUptoRow.holds Try.pinned (OpenSpec.upto fnExactRankingOfSpec)

/-- 'laws.FnFairs', WHERE WHAT IT READS IS OF BULK AT MOST 1048576: true; the input reads as it did. -/
def fnFairsUptoRow : OpenClaim := { program := "ytmpadppnhhamhaa", sum := "1b0580772924f4669afe882dff8368169158eaa7daa2b18519a0e33aaf1cbfec", func := "loop.example/g03304/laws.FnFairs", spec := "fnFairs", apart := false, narrowed := true }
def FnFairsUptoSaid : Prop := fnFairsUptoRow.holds Try.pinned (OpenSpec.upto fnFairsSpec)

end Rows
end Go.Proofs.Ytmpadppnhhamhaa
