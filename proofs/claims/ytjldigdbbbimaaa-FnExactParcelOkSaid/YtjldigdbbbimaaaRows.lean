/-
  No cell of these rows narrows 'for every input' (looked for: loops, veiled, ifaces, maps, wideKeys, modest, calm, conditions, laid).
  DERIVED. THE GIVEN ROWS OF THIS SEAT. 6 by the template 'for every input the law returns true; each argument reads behind the call as it read before'; 0 by the template 'total and deterministic' (their statements: YtjldigdbbbimaaaTotals.lean).
  GIVEN WITH THE SEED: the statements are not yours to turn. If you find one false, say at which input.
  Laid BY PROGRAM, IN A SANDBOX (cutbox-rows.mjs): the forced cells as the released guide's own fill.sh prints them over the translation 5c17331b6ed8d62f… (all of the seat's roots in one cut). By AI agents, Wed Nov 11 2026. No macro, syntax, notation, axiom, sorry.
-/
import Derived.Test.YtjldigdbbbimaaaChecked
import GoSem.Claim
import GoSem.ClaimJoined
import GoSem.ClaimMapViews
import Derived.JoinedTies
import Derived.KernelRfl
namespace Go.Proofs.Ytjldigdbbbimaaa
/- THE CELL 'sum', in the pinned program and in every row, IS THE sha256 OF THE DUMP (.gsa) THAT YtjldigdbbbimaaaProg.lean LOADS. Nothing in Lean hashes anything: it is a label: what it is worth is what the hold of that sum in a sandbox is worth. -/
noncomputable def Try.pinned : Pinned := { name := "ytjldigdbbbimaaa", sum := "5c17331b6ed8d62ff1d93e22066ae7ebbc6a5da26b5ebebac9efd62320beddf1", checked := Try.checked }
namespace Rows
def none {H : Type} : Left H := { results := [], args := [] }

/-- 'laws.FnExactDueDay': WHATEVER THE INPUT: true; the input reads as it did. -/
def fnExactDueDaySpec : ChangeSpec := { name := "fnExactDueDay", fn := fun _ => fun
  | [d1, d2, d3] => { results := [.lit (.bool true)], args := [d1, d2, d3] }
  | _ => none }
def fnExactDueDayRow : OpenClaim := { program := "ytjldigdbbbimaaa", sum := "5c17331b6ed8d62ff1d93e22066ae7ebbc6a5da26b5ebebac9efd62320beddf1", func := "loop.example/g03304/laws.FnExactDueDay", spec := "fnExactDueDay", apart := false }
def FnExactDueDaySaid : Prop := fnExactDueDayRow.holds Try.pinned (OpenSpec.ofChange fnExactDueDaySpec)

/-- ITS FALSE NEIGHBOUR: 'it returns false'. Refute it at one input. -/
def fnExactDueDayWrong : ChangeSpec := { name := "fnExactDueDay", fn := fun _ => fun
  | [d1, d2, d3] => { results := [.lit (.bool false)], args := [d1, d2, d3] }
  | _ => none }
def FnExactDueDayWrongFalsely : Prop := fnExactDueDayRow.holds Try.pinned (OpenSpec.ofChange fnExactDueDayWrong)

/-- 'laws.FnExactSewMinutes': WHATEVER THE INPUT: true; the input reads as it did. -/
def fnExactSewMinutesSpec : ChangeSpec := { name := "fnExactSewMinutes", fn := fun _ => fun
  | [d1, d2] => { results := [.lit (.bool true)], args := [d1, d2] }
  | _ => none }
def fnExactSewMinutesRow : OpenClaim := { program := "ytjldigdbbbimaaa", sum := "5c17331b6ed8d62ff1d93e22066ae7ebbc6a5da26b5ebebac9efd62320beddf1", func := "loop.example/g03304/laws.FnExactSewMinutes", spec := "fnExactSewMinutes", apart := false }
def FnExactSewMinutesSaid : Prop := fnExactSewMinutesRow.holds Try.pinned (OpenSpec.ofChange fnExactSewMinutesSpec)

/-- ITS FALSE NEIGHBOUR: 'it returns false'. Refute it at one input. -/
def fnExactSewMinutesWrong : ChangeSpec := { name := "fnExactSewMinutes", fn := fun _ => fun
  | [d1, d2] => { results := [.lit (.bool false)], args := [d1, d2] }
  | _ => none }
def FnExactSewMinutesWrongFalsely : Prop := fnExactSewMinutesRow.holds Try.pinned (OpenSpec.ofChange fnExactSewMinutesWrong)

/-- 'laws.FnExactStitchCount': WHATEVER THE INPUT: true; the input reads as it did. -/
def fnExactStitchCountSpec : ChangeSpec := { name := "fnExactStitchCount", fn := fun _ => fun
  | [d1, d2] => { results := [.lit (.bool true)], args := [d1, d2] }
  | _ => none }
def fnExactStitchCountRow : OpenClaim := { program := "ytjldigdbbbimaaa", sum := "5c17331b6ed8d62ff1d93e22066ae7ebbc6a5da26b5ebebac9efd62320beddf1", func := "loop.example/g03304/laws.FnExactStitchCount", spec := "fnExactStitchCount", apart := false }
def FnExactStitchCountSaid : Prop := fnExactStitchCountRow.holds Try.pinned (OpenSpec.ofChange fnExactStitchCountSpec)

/-- ITS FALSE NEIGHBOUR: 'it returns false'. Refute it at one input. -/
def fnExactStitchCountWrong : ChangeSpec := { name := "fnExactStitchCount", fn := fun _ => fun
  | [d1, d2] => { results := [.lit (.bool false)], args := [d1, d2] }
  | _ => none }
def FnExactStitchCountWrongFalsely : Prop := fnExactStitchCountRow.holds Try.pinned (OpenSpec.ofChange fnExactStitchCountWrong)

/-- 'laws.FnExactThreadFor': WHATEVER THE INPUT: true; the input reads as it did. -/
def fnExactThreadForSpec : ChangeSpec := { name := "fnExactThreadFor", fn := fun _ => fun
  | [d] => { results := [.lit (.bool true)], args := [d] }
  | _ => none }
def fnExactThreadForRow : OpenClaim := { program := "ytjldigdbbbimaaa", sum := "5c17331b6ed8d62ff1d93e22066ae7ebbc6a5da26b5ebebac9efd62320beddf1", func := "loop.example/g03304/laws.FnExactThreadFor", spec := "fnExactThreadFor", apart := false }
def FnExactThreadForSaid : Prop := fnExactThreadForRow.holds Try.pinned (OpenSpec.ofChange fnExactThreadForSpec)

/-- ITS FALSE NEIGHBOUR: 'it returns false'. Refute it at one input. -/
def fnExactThreadForWrong : ChangeSpec := { name := "fnExactThreadFor", fn := fun _ => fun
  | [d] => { results := [.lit (.bool false)], args := [d] }
  | _ => none }
def FnExactThreadForWrongFalsely : Prop := fnExactThreadForRow.holds Try.pinned (OpenSpec.ofChange fnExactThreadForWrong)

/-- 'laws.FnExactBobbinsFor': WHATEVER THE INPUT: true; the input reads as it did. -/
def fnExactBobbinsForSpec : ChangeSpec := { name := "fnExactBobbinsFor", fn := fun _ => fun
  | [d1, d2] => { results := [.lit (.bool true)], args := [d1, d2] }
  | _ => none }
def fnExactBobbinsForRow : OpenClaim := { program := "ytjldigdbbbimaaa", sum := "5c17331b6ed8d62ff1d93e22066ae7ebbc6a5da26b5ebebac9efd62320beddf1", func := "loop.example/g03304/laws.FnExactBobbinsFor", spec := "fnExactBobbinsFor", apart := false }
def FnExactBobbinsForSaid : Prop := fnExactBobbinsForRow.holds Try.pinned (OpenSpec.ofChange fnExactBobbinsForSpec)

/-- ITS FALSE NEIGHBOUR: 'it returns false'. Refute it at one input. -/
def fnExactBobbinsForWrong : ChangeSpec := { name := "fnExactBobbinsFor", fn := fun _ => fun
  | [d1, d2] => { results := [.lit (.bool false)], args := [d1, d2] }
  | _ => none }
def FnExactBobbinsForWrongFalsely : Prop := fnExactBobbinsForRow.holds Try.pinned (OpenSpec.ofChange fnExactBobbinsForWrong)

/-- 'laws.FnExactParcelOk': WHATEVER THE INPUT: true; the input reads as it did. -/
def fnExactParcelOkSpec : ChangeSpec := { name := "fnExactParcelOk", fn := fun _ => fun
  | [d] => { results := [.lit (.bool true)], args := [d] }
  | _ => none }
def fnExactParcelOkRow : OpenClaim := { program := "ytjldigdbbbimaaa", sum := "5c17331b6ed8d62ff1d93e22066ae7ebbc6a5da26b5ebebac9efd62320beddf1", func := "loop.example/g03304/laws.FnExactParcelOk", spec := "fnExactParcelOk", apart := false }
def FnExactParcelOkSaid : Prop := fnExactParcelOkRow.holds Try.pinned (OpenSpec.ofChange fnExactParcelOkSpec)

/-- ITS FALSE NEIGHBOUR: 'it returns false'. Refute it at one input. -/
def fnExactParcelOkWrong : ChangeSpec := { name := "fnExactParcelOk", fn := fun _ => fun
  | [d] => { results := [.lit (.bool false)], args := [d] }
  | _ => none }
def FnExactParcelOkWrongFalsely : Prop := fnExactParcelOkRow.holds Try.pinned (OpenSpec.ofChange fnExactParcelOkWrong)

/- THE SECOND FORM. 'bulk': how many values and letters a reading holds, each counted each time it is reached (what is shared counts as often as it is met; a slice's spare places count too). A statement '..UptoSaid' is the law's where the arguments, and the package variables that the reading takes, are together of bulk at most 1048576: NARROWER than '..Said'. Prove '..Said' where nothing that the law and all that it calls make is longer than what came in: it says more and counts as full. Else prove '..UptoSaid'. A law counts once. -/
mutual
def uptoBulk {H : Type} : DataW H → Nat
  | .lit (.string bytes) => bytes.length + 1
  | .lit _ => 1
  | .nil => 1
  | .ptr d => uptoBulk d + 1
  | .slice elems spare => uptoBulkAll elems + uptoBulkAll spare + 1
  | .agg parts => uptoBulkAll parts + 1
  | .iface _ d => uptoBulk d + 1
  | .map entries => uptoBulkEntries entries + 1
  | .held _ => 1
def uptoBulkAll {H : Type} : List (DataW H) → Nat
  | [] => 0
  | d :: r => uptoBulk d + uptoBulkAll r
def uptoBulkEntries {H : Type} : List (Lit × DataW H) → Nat
  | [] => 0
  | x :: r => uptoBulkEntry x + uptoBulkEntries r
def uptoBulkEntry {H : Type} : Lit × DataW H → Nat
  | (.string bytes, d) => bytes.length + uptoBulk d + 1
  | (_, d) => uptoBulk d + 1
 end
def uptoSmall : (H : Type) → List (DataW H) → Bool := fun _ ds => decide (uptoBulkAll ds ≤ 1048576)
def OpenSpec.upto (s : _root_.Go.ChangeSpec) : _root_.Go.OpenSpec := { _root_.Go.OpenSpec.ofChange s with cond := some uptoSmall }

/-- 'laws.FnExactDueDay', WHERE WHAT IT READS IS OF BULK AT MOST 1048576: true; the input reads as it did. -/
def fnExactDueDayUptoRow : OpenClaim := { program := "ytjldigdbbbimaaa", sum := "5c17331b6ed8d62ff1d93e22066ae7ebbc6a5da26b5ebebac9efd62320beddf1", func := "loop.example/g03304/laws.FnExactDueDay", spec := "fnExactDueDay", apart := false, narrowed := true }
def FnExactDueDayUptoSaid : Prop := fnExactDueDayUptoRow.holds Try.pinned (OpenSpec.upto fnExactDueDaySpec)

/-- 'laws.FnExactSewMinutes', WHERE WHAT IT READS IS OF BULK AT MOST 1048576: true; the input reads as it did. -/
def fnExactSewMinutesUptoRow : OpenClaim := { program := "ytjldigdbbbimaaa", sum := "5c17331b6ed8d62ff1d93e22066ae7ebbc6a5da26b5ebebac9efd62320beddf1", func := "loop.example/g03304/laws.FnExactSewMinutes", spec := "fnExactSewMinutes", apart := false, narrowed := true }
def FnExactSewMinutesUptoSaid : Prop := fnExactSewMinutesUptoRow.holds Try.pinned (OpenSpec.upto fnExactSewMinutesSpec)

/-- 'laws.FnExactStitchCount', WHERE WHAT IT READS IS OF BULK AT MOST 1048576: true; the input reads as it did. -/
def fnExactStitchCountUptoRow : OpenClaim := { program := "ytjldigdbbbimaaa", sum := "5c17331b6ed8d62ff1d93e22066ae7ebbc6a5da26b5ebebac9efd62320beddf1", func := "loop.example/g03304/laws.FnExactStitchCount", spec := "fnExactStitchCount", apart := false, narrowed := true }
def FnExactStitchCountUptoSaid : Prop := fnExactStitchCountUptoRow.holds Try.pinned (OpenSpec.upto fnExactStitchCountSpec)

/-- 'laws.FnExactThreadFor', WHERE WHAT IT READS IS OF BULK AT MOST 1048576: true; the input reads as it did. -/
def fnExactThreadForUptoRow : OpenClaim := { program := "ytjldigdbbbimaaa", sum := "5c17331b6ed8d62ff1d93e22066ae7ebbc6a5da26b5ebebac9efd62320beddf1", func := "loop.example/g03304/laws.FnExactThreadFor", spec := "fnExactThreadFor", apart := false, narrowed := true }
def FnExactThreadForUptoSaid : Prop := fnExactThreadForUptoRow.holds Try.pinned (OpenSpec.upto fnExactThreadForSpec)

/-- 'laws.FnExactBobbinsFor', WHERE WHAT IT READS IS OF BULK AT MOST 1048576: true; the input reads as it did. -/
def fnExactBobbinsForUptoRow : OpenClaim := { program := "ytjldigdbbbimaaa", sum := "5c17331b6ed8d62ff1d93e22066ae7ebbc6a5da26b5ebebac9efd62320beddf1", func := "loop.example/g03304/laws.FnExactBobbinsFor", spec := "fnExactBobbinsFor", apart := false, narrowed := true }
def FnExactBobbinsForUptoSaid : Prop := fnExactBobbinsForUptoRow.holds Try.pinned (OpenSpec.upto fnExactBobbinsForSpec)

/-- 'laws.FnExactParcelOk', WHERE WHAT IT READS IS OF BULK AT MOST 1048576: true; the input reads as it did. -/
def fnExactParcelOkUptoRow : OpenClaim := { program := "ytjldigdbbbimaaa", sum := "5c17331b6ed8d62ff1d93e22066ae7ebbc6a5da26b5ebebac9efd62320beddf1", func := "loop.example/g03304/laws.FnExactParcelOk", spec := "fnExactParcelOk", apart := false, narrowed := true }
def FnExactParcelOkUptoSaid : Prop := fnExactParcelOkUptoRow.holds Try.pinned (OpenSpec.upto fnExactParcelOkSpec)

end Rows
end Go.Proofs.Ytjldigdbbbimaaa
