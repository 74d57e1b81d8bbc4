/-
  No cell of these rows narrows 'for every input' (looked for: loops, veiled, ifaces, maps, wideKeys, modest, calm, conditions, laid).
  DERIVED. THE GIVEN ROWS OF THIS SEAT. 12 by the template 'for every input the law returns true; each argument reads behind the call as it read before'; 0 by the template 'total and deterministic' (their statements: YthfhbcgnninlkaaTotals.lean).
  GIVEN WITH THE SEED: the statements are not yours to turn. If you find one false, say at which input.
  Laid BY PROGRAM, IN A SANDBOX (cutbox-rows.mjs): the forced cells as the released guide's own fill.sh prints them over the translation cede226da6c6d4ce… (all of the seat's roots in one cut). By AI agents, Wed Nov 11 2026. No macro, syntax, notation, axiom, sorry.
-/
import Derived.Test.YthfhbcgnninlkaaChecked
import GoSem.Claim
import GoSem.ClaimJoined
import GoSem.ClaimMapViews
import Derived.JoinedTies
import Derived.KernelRfl
namespace Go.Proofs.Ythfhbcgnninlkaa
/- THE CELL 'sum', in the pinned program and in every row, IS THE sha256 OF THE DUMP (.gsa) THAT YthfhbcgnninlkaaProg.lean LOADS. Nothing in Lean hashes anything: it is a label: what it is worth is what the hold of that sum in a sandbox is worth. -/
noncomputable def Try.pinned : Pinned := { name := "ythfhbcgnninlkaa", sum := "cede226da6c6d4ceb630f5d550a015247080a8a553f74fea153a149a47d13606", checked := Try.checked }
namespace Rows
def none {H : Type} : Left H := { results := [], args := [] }

/-- 'laws.FnExactContrastOk': WHATEVER THE INPUT: true; the input reads as it did. -/
def fnExactContrastOkSpec : ChangeSpec := { name := "fnExactContrastOk", fn := fun _ => fun
  | [d] => { results := [.lit (.bool true)], args := [d] }
  | _ => none }
def fnExactContrastOkRow : OpenClaim := { program := "ythfhbcgnninlkaa", sum := "cede226da6c6d4ceb630f5d550a015247080a8a553f74fea153a149a47d13606", func := "loop.example/g03304/laws.FnExactContrastOk", spec := "fnExactContrastOk", apart := false }
def FnExactContrastOkSaid : Prop := fnExactContrastOkRow.holds Try.pinned (OpenSpec.ofChange fnExactContrastOkSpec)

/-- ITS FALSE NEIGHBOUR: 'it returns false'. Refute it at one input. -/
def fnExactContrastOkWrong : ChangeSpec := { name := "fnExactContrastOk", fn := fun _ => fun
  | [d] => { results := [.lit (.bool false)], args := [d] }
  | _ => none }
def FnExactContrastOkWrongFalsely : Prop := fnExactContrastOkRow.holds Try.pinned (OpenSpec.ofChange fnExactContrastOkWrong)

/-- 'laws.FnExactStockOk': WHATEVER THE INPUT: true; the input reads as it did. -/
def fnExactStockOkSpec : ChangeSpec := { name := "fnExactStockOk", fn := fun _ => fun
  | [d] => { results := [.lit (.bool true)], args := [d] }
  | _ => none }
def fnExactStockOkRow : OpenClaim := { program := "ythfhbcgnninlkaa", sum := "cede226da6c6d4ceb630f5d550a015247080a8a553f74fea153a149a47d13606", func := "loop.example/g03304/laws.FnExactStockOk", spec := "fnExactStockOk", apart := false }
def FnExactStockOkSaid : Prop := fnExactStockOkRow.holds Try.pinned (OpenSpec.ofChange fnExactStockOkSpec)

/-- ITS FALSE NEIGHBOUR: 'it returns false'. Refute it at one input. -/
def fnExactStockOkWrong : ChangeSpec := { name := "fnExactStockOk", fn := fun _ => fun
  | [d] => { results := [.lit (.bool false)], args := [d] }
  | _ => none }
def FnExactStockOkWrongFalsely : Prop := fnExactStockOkRow.holds Try.pinned (OpenSpec.ofChange fnExactStockOkWrong)

/-- 'laws.FnExactCellLikeness': WHATEVER THE INPUT: true; the input reads as it did. -/
def fnExactCellLikenessSpec : ChangeSpec := { name := "fnExactCellLikeness", fn := fun _ => fun
  | [d1, d2] => { results := [.lit (.bool true)], args := [d1, d2] }
  | _ => none }
def fnExactCellLikenessRow : OpenClaim := { program := "ythfhbcgnninlkaa", sum := "cede226da6c6d4ceb630f5d550a015247080a8a553f74fea153a149a47d13606", func := "loop.example/g03304/laws.FnExactCellLikeness", spec := "fnExactCellLikeness", apart := false }
def FnExactCellLikenessSaid : Prop := fnExactCellLikenessRow.holds Try.pinned (OpenSpec.ofChange fnExactCellLikenessSpec)

/-- ITS FALSE NEIGHBOUR: 'it returns false'. Refute it at one input. -/
def fnExactCellLikenessWrong : ChangeSpec := { name := "fnExactCellLikeness", fn := fun _ => fun
  | [d1, d2] => { results := [.lit (.bool false)], args := [d1, d2] }
  | _ => none }
def FnExactCellLikenessWrongFalsely : Prop := fnExactCellLikenessRow.holds Try.pinned (OpenSpec.ofChange fnExactCellLikenessWrong)

/-- 'laws.FnExactTimesEnough': WHATEVER THE INPUT: true; the input reads as it did. -/
def fnExactTimesEnoughSpec : ChangeSpec := { name := "fnExactTimesEnough", fn := fun _ => fun
  | [d1, d2] => { results := [.lit (.bool true)], args := [d1, d2] }
  | _ => none }
def fnExactTimesEnoughRow : OpenClaim := { program := "ythfhbcgnninlkaa", sum := "cede226da6c6d4ceb630f5d550a015247080a8a553f74fea153a149a47d13606", func := "loop.example/g03304/laws.FnExactTimesEnough", spec := "fnExactTimesEnough", apart := false }
def FnExactTimesEnoughSaid : Prop := fnExactTimesEnoughRow.holds Try.pinned (OpenSpec.ofChange fnExactTimesEnoughSpec)

/-- ITS FALSE NEIGHBOUR: 'it returns false'. Refute it at one input. -/
def fnExactTimesEnoughWrong : ChangeSpec := { name := "fnExactTimesEnough", fn := fun _ => fun
  | [d1, d2] => { results := [.lit (.bool false)], args := [d1, d2] }
  | _ => none }
def FnExactTimesEnoughWrongFalsely : Prop := fnExactTimesEnoughRow.holds Try.pinned (OpenSpec.ofChange fnExactTimesEnoughWrong)

/-- 'laws.FnExactEnoughFor': WHATEVER THE INPUT: true; the input reads as it did. -/
def fnExactEnoughForSpec : ChangeSpec := { name := "fnExactEnoughFor", fn := fun _ => fun
  | [d1, d2] => { results := [.lit (.bool true)], args := [d1, d2] }
  | _ => none }
def fnExactEnoughForRow : OpenClaim := { program := "ythfhbcgnninlkaa", sum := "cede226da6c6d4ceb630f5d550a015247080a8a553f74fea153a149a47d13606", func := "loop.example/g03304/laws.FnExactEnoughFor", spec := "fnExactEnoughFor", apart := false }
def FnExactEnoughForSaid : Prop := fnExactEnoughForRow.holds Try.pinned (OpenSpec.ofChange fnExactEnoughForSpec)

/-- ITS FALSE NEIGHBOUR: 'it returns false'. Refute it at one input. -/
def fnExactEnoughForWrong : ChangeSpec := { name := "fnExactEnoughFor", fn := fun _ => fun
  | [d1, d2] => { results := [.lit (.bool false)], args := [d1, d2] }
  | _ => none }
def FnExactEnoughForWrongFalsely : Prop := fnExactEnoughForRow.holds Try.pinned (OpenSpec.ofChange fnExactEnoughForWrong)

/-- 'laws.FnExactLackOf': WHATEVER THE INPUT: true; the input reads as it did. -/
def fnExactLackOfSpec : ChangeSpec := { name := "fnExactLackOf", fn := fun _ => fun
  | [d1, d2] => { results := [.lit (.bool true)], args := [d1, d2] }
  | _ => none }
def fnExactLackOfRow : OpenClaim := { program := "ythfhbcgnninlkaa", sum := "cede226da6c6d4ceb630f5d550a015247080a8a553f74fea153a149a47d13606", func := "loop.example/g03304/laws.FnExactLackOf", spec := "fnExactLackOf", apart := false }
def FnExactLackOfSaid : Prop := fnExactLackOfRow.holds Try.pinned (OpenSpec.ofChange fnExactLackOfSpec)

/-- ITS FALSE NEIGHBOUR: 'it returns false'. Refute it at one input. -/
def fnExactLackOfWrong : ChangeSpec := { name := "fnExactLackOf", fn := fun _ => fun
  | [d1, d2] => { results := [.lit (.bool false)], args := [d1, d2] }
  | _ => none }
def FnExactLackOfWrongFalsely : Prop := fnExactLackOfRow.holds Try.pinned (OpenSpec.ofChange fnExactLackOfWrong)

/-- 'laws.FnExactInnerContrast': WHATEVER THE INPUT: true; the input reads as it did. -/
def fnExactInnerContrastSpec : ChangeSpec := { name := "fnExactInnerContrast", fn := fun _ => fun
  | [d1, d2] => { results := [.lit (.bool true)], args := [d1, d2] }
  | _ => none }
def fnExactInnerContrastRow : OpenClaim := { program := "ythfhbcgnninlkaa", sum := "cede226da6c6d4ceb630f5d550a015247080a8a553f74fea153a149a47d13606", func := "loop.example/g03304/laws.FnExactInnerContrast", spec := "fnExactInnerContrast", apart := false }
def FnExactInnerContrastSaid : Prop := fnExactInnerContrastRow.holds Try.pinned (OpenSpec.ofChange fnExactInnerContrastSpec)

/-- ITS FALSE NEIGHBOUR: 'it returns false'. Refute it at one input. -/
def fnExactInnerContrastWrong : ChangeSpec := { name := "fnExactInnerContrast", fn := fun _ => fun
  | [d1, d2] => { results := [.lit (.bool false)], args := [d1, d2] }
  | _ => none }
def FnExactInnerContrastWrongFalsely : Prop := fnExactInnerContrastRow.holds Try.pinned (OpenSpec.ofChange fnExactInnerContrastWrong)

/-- 'laws.FnExactEdgeContrast': WHATEVER THE INPUT: true; the input reads as it did. -/
def fnExactEdgeContrastSpec : ChangeSpec := { name := "fnExactEdgeContrast", fn := fun _ => fun
  | [d1, d2, d3, d4] => { results := [.lit (.bool true)], args := [d1, d2, d3, d4] }
  | _ => none }
def fnExactEdgeContrastRow : OpenClaim := { program := "ythfhbcgnninlkaa", sum := "cede226da6c6d4ceb630f5d550a015247080a8a553f74fea153a149a47d13606", func := "loop.example/g03304/laws.FnExactEdgeContrast", spec := "fnExactEdgeContrast", apart := false }
def FnExactEdgeContrastSaid : Prop := fnExactEdgeContrastRow.holds Try.pinned (OpenSpec.ofChange fnExactEdgeContrastSpec)

/-- ITS FALSE NEIGHBOUR: 'it returns false'. Refute it at one input. -/
def fnExactEdgeContrastWrong : ChangeSpec := { name := "fnExactEdgeContrast", fn := fun _ => fun
  | [d1, d2, d3, d4] => { results := [.lit (.bool false)], args := [d1, d2, d3, d4] }
  | _ => none }
def FnExactEdgeContrastWrongFalsely : Prop := fnExactEdgeContrastRow.holds Try.pinned (OpenSpec.ofChange fnExactEdgeContrastWrong)

/-- 'laws.FnExactLateDays': WHATEVER THE INPUT: true; the input reads as it did. -/
def fnExactLateDaysSpec : ChangeSpec := { name := "fnExactLateDays", fn := fun _ => fun
  | [d1, d2, d3, d4] => { results := [.lit (.bool true)], args := [d1, d2, d3, d4] }
  | _ => none }
def fnExactLateDaysRow : OpenClaim := { program := "ythfhbcgnninlkaa", sum := "cede226da6c6d4ceb630f5d550a015247080a8a553f74fea153a149a47d13606", func := "loop.example/g03304/laws.FnExactLateDays", spec := "fnExactLateDays", apart := false }
def FnExactLateDaysSaid : Prop := fnExactLateDaysRow.holds Try.pinned (OpenSpec.ofChange fnExactLateDaysSpec)

/-- ITS FALSE NEIGHBOUR: 'it returns false'. Refute it at one input. -/
def fnExactLateDaysWrong : ChangeSpec := { name := "fnExactLateDays", fn := fun _ => fun
  | [d1, d2, d3, d4] => { results := [.lit (.bool false)], args := [d1, d2, d3, d4] }
  | _ => none }
def FnExactLateDaysWrongFalsely : Prop := fnExactLateDaysRow.holds Try.pinned (OpenSpec.ofChange fnExactLateDaysWrong)

/-- 'laws.FnExactGraceNeeded': WHATEVER THE INPUT: true; the input reads as it did. -/
def fnExactGraceNeededSpec : ChangeSpec := { name := "fnExactGraceNeeded", fn := fun _ => fun
  | [d1, d2, d3, d4] => { results := [.lit (.bool true)], args := [d1, d2, d3, d4] }
  | _ => none }
def fnExactGraceNeededRow : OpenClaim := { program := "ythfhbcgnninlkaa", sum := "cede226da6c6d4ceb630f5d550a015247080a8a553f74fea153a149a47d13606", func := "loop.example/g03304/laws.FnExactGraceNeeded", spec := "fnExactGraceNeeded", apart := false }
def FnExactGraceNeededSaid : Prop := fnExactGraceNeededRow.holds Try.pinned (OpenSpec.ofChange fnExactGraceNeededSpec)

/-- ITS FALSE NEIGHBOUR: 'it returns false'. Refute it at one input. -/
def fnExactGraceNeededWrong : ChangeSpec := { name := "fnExactGraceNeeded", fn := fun _ => fun
  | [d1, d2, d3, d4] => { results := [.lit (.bool false)], args := [d1, d2, d3, d4] }
  | _ => none }
def FnExactGraceNeededWrongFalsely : Prop := fnExactGraceNeededRow.holds Try.pinned (OpenSpec.ofChange fnExactGraceNeededWrong)

/-- 'laws.FnExactLateMembers': WHATEVER THE INPUT: true; the input reads as it did. -/
def fnExactLateMembersSpec : ChangeSpec := { name := "fnExactLateMembers", fn := fun _ => fun
  | [d1, d2, d3, d4] => { results := [.lit (.bool true)], args := [d1, d2, d3, d4] }
  | _ => none }
def fnExactLateMembersRow : OpenClaim := { program := "ythfhbcgnninlkaa", sum := "cede226da6c6d4ceb630f5d550a015247080a8a553f74fea153a149a47d13606", func := "loop.example/g03304/laws.FnExactLateMembers", spec := "fnExactLateMembers", apart := false }
def FnExactLateMembersSaid : Prop := fnExactLateMembersRow.holds Try.pinned (OpenSpec.ofChange fnExactLateMembersSpec)

/-- ITS FALSE NEIGHBOUR: 'it returns false'. Refute it at one input. -/
def fnExactLateMembersWrong : ChangeSpec := { name := "fnExactLateMembers", fn := fun _ => fun
  | [d1, d2, d3, d4] => { results := [.lit (.bool false)], args := [d1, d2, d3, d4] }
  | _ => none }
def FnExactLateMembersWrongFalsely : Prop := fnExactLateMembersRow.holds Try.pinned (OpenSpec.ofChange fnExactLateMembersWrong)

/-- 'laws.FnDeadlines': WHATEVER THE INPUT: true; the input reads as it did. -/
def fnDeadlinesSpec : ChangeSpec := { name := "fnDeadlines", fn := fun _ => fun
  | [d] => { results := [.lit (.bool true)], args := [d] }
  | _ => none }
def fnDeadlinesRow : OpenClaim := { program := "ythfhbcgnninlkaa", sum := "cede226da6c6d4ceb630f5d550a015247080a8a553f74fea153a149a47d13606", func := "loop.example/g03304/laws.FnDeadlines", spec := "fnDeadlines", apart := false }
def FnDeadlinesSaid : Prop := fnDeadlinesRow.holds Try.pinned (OpenSpec.ofChange fnDeadlinesSpec)

/-- ITS FALSE NEIGHBOUR: 'it returns false'. Refute it at one input. -/
def fnDeadlinesWrong : ChangeSpec := { name := "fnDeadlines", fn := fun _ => fun
  | [d] => { results := [.lit (.bool false)], args := [d] }
  | _ => none }
def FnDeadlinesWrongFalsely : Prop := fnDeadlinesRow.holds Try.pinned (OpenSpec.ofChange fnDeadlinesWrong)

/- THE SECOND FORM. 'bulk': how many values and letters a reading holds, each counted each time it is reached (what is shared counts as often as it is met; a slice's spare places count too). A statement '..UptoSaid' is the law's where the arguments, and the package variables that the reading takes, are together of bulk at most 1048576: NARROWER than '..Said'. Prove '..Said' where nothing that the law and all that it calls make is longer than what came in: it says more and counts as full. Else prove '..UptoSaid'. A law counts once. -/
mutual
def uptoBulk {H : Type} : DataW H → Nat
  | .lit (.string bytes) => bytes.length + 1
  | .lit _ => 1
  | .nil => 1
  | .ptr d => uptoBulk d + 1
  | .slice elems spare => uptoBulkAll elems + uptoBulkAll spare + 1
  | .agg parts => uptoBulkAll parts + 1
  | .iface _ d => uptoBulk d + 1
  | .map entries => uptoBulkEntries entries + 1
  | .held _ => 1
def uptoBulkAll {H : Type} : List (DataW H) → Nat
  | [] => 0
  | d :: r => uptoBulk d + uptoBulkAll r
def uptoBulkEntries {H : Type} : List (Lit × DataW H) → Nat
  | [] => 0
  | x :: r => uptoBulkEntry x + uptoBulkEntries r
def uptoBulkEntry {H : Type} : Lit × DataW H → Nat
  | (.string bytes, d) => bytes.length + uptoBulk d + 1
  | (_, d) => uptoBulk d + 1
 end
def uptoSmall : (H : Type) → List (DataW H) → Bool := fun _ ds => decide (uptoBulkAll ds ≤ 1048576)
def OpenSpec.upto (s : _root_.Go.ChangeSpec) : _root_.Go.OpenSpec := { _root_.Go.OpenSpec.ofChange s with cond := some uptoSmall }

/-- 'laws.FnExactContrastOk', WHERE WHAT IT READS IS OF BULK AT MOST 1048576: true; the input reads as it did. -/
def fnExactContrastOkUptoRow : OpenClaim := { program := "ythfhbcgnninlkaa", sum := "cede226da6c6d4ceb630f5d550a015247080a8a553f74fea153a149a47d13606", func := "loop.example/g03304/laws.FnExactContrastOk", spec := "fnExactContrastOk", apart := false, narrowed := true }
def FnExactContrastOkUptoSaid : Prop := fnExactContrastOkUptoRow.holds Try.pinned (OpenSpec.upto fnExactContrastOkSpec)

/-- 'laws.FnExactStockOk', WHERE WHAT IT READS IS OF BULK AT MOST 1048576: true; the input reads as it did. -/
def fnExactStockOkUptoRow : OpenClaim := { program := "ythfhbcgnninlkaa", sum := "cede226da6c6d4ceb630f5d550a015247080a8a553f74fea153a149a47d13606", func := "loop.example/g03304/laws.FnExactStockOk", spec := "fnExactStockOk", apart := false, narrowed := true }
def FnExactStockOkUptoSaid : Prop := fnExactStockOkUptoRow.holds Try.pinned (OpenSpec.upto fnExactStockOkSpec)

/-- 'laws.FnExactCellLikeness', WHERE WHAT IT READS IS OF BULK AT MOST 1048576: true; the input reads as it did. -/
def fnExactCellLikenessUptoRow : OpenClaim := { program := "ythfhbcgnninlkaa", sum := "cede226da6c6d4ceb630f5d550a015247080a8a553f74fea153a149a47d13606", func := "loop.example/g03304/laws.FnExactCellLikeness", spec := "fnExactCellLikeness", apart := false, narrowed := true }
def FnExactCellLikenessUptoSaid : Prop := fnExactCellLikenessUptoRow.holds Try.pinned (OpenSpec.upto fnExactCellLikenessSpec)

/-- 'laws.FnExactTimesEnough', WHERE WHAT IT READS IS OF BULK AT MOST 1048576: true; the input reads as it did. -/
def fnExactTimesEnoughUptoRow : OpenClaim := { program := "ythfhbcgnninlkaa", sum := "cede226da6c6d4ceb630f5d550a015247080a8a553f74fea153a149a47d13606", func := "loop.example/g03304/laws.FnExactTimesEnough", spec := "fnExactTimesEnough", apart := false, narrowed := true }
def FnExactTimesEnoughUptoSaid : Prop := fnExactTimesEnoughUptoRow.holds Try.pinned (OpenSpec.upto fnExactTimesEnoughSpec)

/-- 'laws.FnExactEnoughFor', WHERE WHAT IT READS IS OF BULK AT MOST 1048576: true; the input reads as it did. -/
def fnExactEnoughForUptoRow : OpenClaim := { program := "ythfhbcgnninlkaa", sum := "cede226da6c6d4ceb630f5d550a015247080a8a553f74fea153a149a47d13606", func := "loop.example/g03304/laws.FnExactEnoughFor", spec := "fnExactEnoughFor", apart := false, narrowed := true }
def FnExactEnoughForUptoSaid : Prop := fnExactEnoughForUptoRow.holds Try.pinned (OpenSpec.upto fnExactEnoughForSpec)

/-- 'laws.FnExactLackOf', WHERE WHAT IT READS IS OF BULK AT MOST 1048576: true; the input reads as it did. -/
def fnExactLackOfUptoRow : OpenClaim := { program := "ythfhbcgnninlkaa", sum := "cede226da6c6d4ceb630f5d550a015247080a8a553f74fea153a149a47d13606", func := "loop.example/g03304/laws.FnExactLackOf", spec := "fnExactLackOf", apart := false, narrowed := true }
def FnExactLackOfUptoSaid : Prop := fnExactLackOfUptoRow.holds Try.pinned (OpenSpec.upto fnExactLackOfSpec)

/-- 'laws.FnExactInnerContrast', WHERE WHAT IT READS IS OF BULK AT MOST 1048576: true; the input reads as it did. -/
def fnExactInnerContrastUptoRow : OpenClaim := { program := "ythfhbcgnninlkaa", sum := "cede226da6c6d4ceb630f5d550a015247080a8a553f74fea153a149a47d13606", func := "loop.example/g03304/laws.FnExactInnerContrast", spec := "fnExactInnerContrast", apart := false, narrowed := true }
def FnExactInnerContrastUptoSaid : Prop := fnExactInnerContrastUptoRow.holds Try.pinned (OpenSpec.upto fnExactInnerContrastSpec)

/-- 'laws.FnExactEdgeContrast', WHERE WHAT IT READS IS OF BULK AT MOST 1048576: true; the input reads as it did. -/
def fnExactEdgeContrastUptoRow : OpenClaim := { program := "ythfhbcgnninlkaa", sum := "cede226da6c6d4ceb630f5d550a015247080a8a553f74fea153a149a47d13606", func := "loop.example/g03304/laws.FnExactEdgeContrast", spec := "fnExactEdgeContrast", apart := false, narrowed := true }
def FnExactEdgeContrastUptoSaid : Prop := fnExactEdgeContrastUptoRow.holds Try.pinned (OpenSpec.upto fnExactEdgeContrastSpec)

/-- 'laws.FnExactLateDays', WHERE WHAT IT READS IS OF BULK AT MOST 1048576: true; the input reads as it did. -/
def fnExactLateDaysUptoRow : OpenClaim := { program := "ythfhbcgnninlkaa", sum := "cede226da6c6d4ceb630f5d550a015247080a8a553f74fea153a149a47d13606", func := "loop.example/g03304/laws.FnExactLateDays", spec := "fnExactLateDays", apart := false, narrowed := true }
def FnExactLateDaysUptoSaid : Prop := fnExactLateDaysUptoRow.holds Try.pinned (OpenSpec.upto fnExactLateDaysSpec)

/-- 'laws.FnExactGraceNeeded', WHERE WHAT IT READS IS OF BULK AT MOST 1048576: true; the input reads as it did. -/
def fnExactGraceNeededUptoRow : OpenClaim := { program := "ythfhbcgnninlkaa", sum := "cede226da6c6d4ceb630f5d550a015247080a8a553f74fea153a149a47d13606", func := "loop.example/g03304/laws.FnExactGraceNeeded", spec := "fnExactGraceNeeded", apart := false, narrowed := true }
def FnExactGraceNeededUptoSaid : Prop := fnExactGraceNeededUptoRow.holds Try.pinned (OpenSpec.upto fnExactGraceNeededSpec)

/-- 'laws.FnExactLateMembers', WHERE WHAT IT READS IS OF BULK AT MOST 1048576: true; the input reads as it did. -/
def fnExactLateMembersUptoRow : OpenClaim := { program := "ythfhbcgnninlkaa", sum := "cede226da6c6d4ceb630f5d550a015247080a8a553f74fea153a149a47d13606", func := "loop.example/g03304/laws.FnExactLateMembers", spec := "fnExactLateMembers", apart := false, narrowed := true }
def FnExactLateMembersUptoSaid : Prop := fnExactLateMembersUptoRow.holds Try.pinned (OpenSpec.upto fnExactLateMembersSpec)

/-- 'laws.FnDeadlines', WHERE WHAT IT READS IS OF BULK AT MOST 1048576: true; the input reads as it did. -/
def fnDeadlinesUptoRow : OpenClaim := { program := "ythfhbcgnninlkaa", sum := "cede226da6c6d4ceb630f5d550a015247080a8a553f74fea153a149a47d13606", func := "loop.example/g03304/laws.FnDeadlines", spec := "fnDeadlines", apart := false, narrowed := true }
def FnDeadlinesUptoSaid : Prop := fnDeadlinesUptoRow.holds Try.pinned (OpenSpec.upto fnDeadlinesSpec)

end Rows
end Go.Proofs.Ythfhbcgnninlkaa
