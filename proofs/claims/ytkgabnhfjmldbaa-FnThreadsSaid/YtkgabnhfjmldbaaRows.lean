/-
  No cell of these rows narrows 'for every input' (looked for: loops, veiled, ifaces, maps, wideKeys, modest, calm, conditions, laid).
  DERIVED. THE GIVEN ROWS OF THIS SEAT. 3 by the template 'for every input the law returns true; each argument reads behind the call as it read before'; 0 by the template 'total and deterministic' (their statements: YtkgabnhfjmldbaaTotals.lean).
  GIVEN WITH THE SEED: the statements are not yours to turn. If you find one false, say at which input.
  Laid BY PROGRAM, IN A SANDBOX (cutbox-rows.mjs): the forced cells as the released guide's own fill.sh prints them over the translation c36bc5af0b9e6e2d… (all of the seat's roots in one cut). By AI agents, Wed Nov 11 2026. No macro, syntax, notation, axiom, sorry.
-/
import Derived.Test.YtkgabnhfjmldbaaChecked
import GoSem.Claim
import GoSem.ClaimJoined
import GoSem.ClaimMapViews
import Derived.JoinedTies
import Derived.KernelRfl
namespace Go.Proofs.Ytkgabnhfjmldbaa
/- THE CELL 'sum', in the pinned program and in every row, IS THE sha256 OF THE DUMP (.gsa) THAT YtkgabnhfjmldbaaProg.lean LOADS. Nothing in Lean hashes anything: it is a label: what it is worth is what the hold of that sum in a sandbox is worth. -/
noncomputable def Try.pinned : Pinned := { name := "ytkgabnhfjmldbaa", sum := "c36bc5af0b9e6e2d02f3cbc4f1db89953939fbe923ddc0d0721a63f4bd0a35a4", checked := Try.checked }
namespace Rows
def none {H : Type} : Left H := { results := [], args := [] }

/-- 'laws.FnExactThreadsNeeded': WHATEVER THE INPUT: true; the input reads as it did. -/
def fnExactThreadsNeededSpec : ChangeSpec := { name := "fnExactThreadsNeeded", fn := fun _ => fun
  | [d1, d2] => { results := [.lit (.bool true)], args := [d1, d2] }
  | _ => none }
def fnExactThreadsNeededRow : OpenClaim := { program := "ytkgabnhfjmldbaa", sum := "c36bc5af0b9e6e2d02f3cbc4f1db89953939fbe923ddc0d0721a63f4bd0a35a4", func := "loop.example/g03304/laws.FnExactThreadsNeeded", spec := "fnExactThreadsNeeded", apart := false }
def FnExactThreadsNeededSaid : Prop := fnExactThreadsNeededRow.holds Try.pinned (OpenSpec.ofChange fnExactThreadsNeededSpec)

/-- ITS FALSE NEIGHBOUR: 'it returns false'. Refute it at one input. -/
def fnExactThreadsNeededWrong : ChangeSpec := { name := "fnExactThreadsNeeded", fn := fun _ => fun
  | [d1, d2] => { results := [.lit (.bool false)], args := [d1, d2] }
  | _ => none }
def FnExactThreadsNeededWrongFalsely : Prop := fnExactThreadsNeededRow.holds Try.pinned (OpenSpec.ofChange fnExactThreadsNeededWrong)

/-- 'laws.FnExactOneThread': WHATEVER THE INPUT: true; the input reads as it did. -/
def fnExactOneThreadSpec : ChangeSpec := { name := "fnExactOneThread", fn := fun _ => fun
  | [d1, d2] => { results := [.lit (.bool true)], args := [d1, d2] }
  | _ => none }
def fnExactOneThreadRow : OpenClaim := { program := "ytkgabnhfjmldbaa", sum := "c36bc5af0b9e6e2d02f3cbc4f1db89953939fbe923ddc0d0721a63f4bd0a35a4", func := "loop.example/g03304/laws.FnExactOneThread", spec := "fnExactOneThread", apart := false }
def FnExactOneThreadSaid : Prop := fnExactOneThreadRow.holds Try.pinned (OpenSpec.ofChange fnExactOneThreadSpec)

/-- ITS FALSE NEIGHBOUR: 'it returns false'. Refute it at one input. -/
def fnExactOneThreadWrong : ChangeSpec := { name := "fnExactOneThread", fn := fun _ => fun
  | [d1, d2] => { results := [.lit (.bool false)], args := [d1, d2] }
  | _ => none }
def FnExactOneThreadWrongFalsely : Prop := fnExactOneThreadRow.holds Try.pinned (OpenSpec.ofChange fnExactOneThreadWrong)

/-- 'laws.FnThreads': WHATEVER THE INPUT: true; the input reads as it did. -/
def fnThreadsSpec : ChangeSpec := { name := "fnThreads", fn := fun _ => fun
  | [d] => { results := [.lit (.bool true)], args := [d] }
  | _ => none }
def fnThreadsRow : OpenClaim := { program := "ytkgabnhfjmldbaa", sum := "c36bc5af0b9e6e2d02f3cbc4f1db89953939fbe923ddc0d0721a63f4bd0a35a4", func := "loop.example/g03304/laws.FnThreads", spec := "fnThreads", apart := false }
def FnThreadsSaid : Prop := fnThreadsRow.holds Try.pinned (OpenSpec.ofChange fnThreadsSpec)

/-- ITS FALSE NEIGHBOUR: 'it returns false'. Refute it at one input. -/
def fnThreadsWrong : ChangeSpec := { name := "fnThreads", fn := fun _ => fun
  | [d] => { results := [.lit (.bool false)], args := [d] }
  | _ => none }
def FnThreadsWrongFalsely : Prop := fnThreadsRow.holds Try.pinned (OpenSpec.ofChange fnThreadsWrong)

/- THE SECOND FORM. 'bulk': how many values and letters a reading holds, each counted each time it is reached (what is shared counts as often as it is met; a slice's spare places count too). A statement '..UptoSaid' is the law's where the arguments, and the package variables that the reading takes, are together of bulk at most 1048576: NARROWER than '..Said'. Prove '..Said' where nothing that the law and all that it calls make is longer than what came in: it says more and counts as full. Else prove '..UptoSaid'. A law counts once. -/
mutual
def uptoBulk {H : Type} : DataW H → Nat
  | .lit (.string bytes) => bytes.length + 1
  | .lit _ => 1
  | .nil => 1
  | .ptr d => uptoBulk d + 1
  | .slice elems spare => uptoBulkAll elems + uptoBulkAll spare + 1
  | .agg parts => uptoBulkAll parts + 1
  | .iface _ d => uptoBulk d + 1
  | .map entries => uptoBulkEntries entries + 1
  | .held _ => 1
def uptoBulkAll {H : Type} : List (DataW H) → Nat
  | [] => 0
  | d :: r => uptoBulk d + uptoBulkAll r
def uptoBulkEntries {H : Type} : List (Lit × DataW H) → Nat
  | [] => 0
  | x :: r => uptoBulkEntry x + uptoBulkEntries r
def uptoBulkEntry {H : Type} : Lit × DataW H → Nat
  | (.string bytes, d) => bytes.length + uptoBulk d + 1
  | (_, d) => uptoBulk d + 1
 end
def uptoSmall : (H : Type) → List (DataW H) → Bool := fun _ ds => decide (uptoBulkAll ds ≤ 1048576)
def OpenSpec.upto (s : _root_.Go.ChangeSpec) : _root_.Go.OpenSpec := { _root_.Go.OpenSpec.ofChange s with cond := some uptoSmall }

/-- 'laws.FnExactThreadsNeeded', WHERE WHAT IT READS IS OF BULK AT MOST 1048576: true; the input reads as it did. -/
def fnExactThreadsNeededUptoRow : OpenClaim := { program := "ytkgabnhfjmldbaa", sum := "c36bc5af0b9e6e2d02f3cbc4f1db89953939fbe923ddc0d0721a63f4bd0a35a4", func := "loop.example/g03304/laws.FnExactThreadsNeeded", spec := "fnExactThreadsNeeded", apart := false, narrowed := true }
def FnExactThreadsNeededUptoSaid : Prop := fnExactThreadsNeededUptoRow.holds Try.pinned (OpenSpec.upto fnExactThreadsNeededSpec)

/-- 'laws.FnExactOneThread', WHERE WHAT IT READS IS OF BULK AT MOST 1048576: true; the input reads as it did. -/
def fnExactOneThreadUptoRow : OpenClaim := { program := "ytkgabnhfjmldbaa", sum := "c36bc5af0b9e6e2d02f3cbc4f1db89953939fbe923ddc0d0721a63f4bd0a35a4", func := "loop.example/g03304/laws.FnExactOneThread", spec := "fnExactOneThread", apart := false, narrowed := true }
def FnExactOneThreadUptoSaid : Prop := fnExactOneThreadUptoRow.holds Try.pinned (OpenSpec.upto fnExactOneThreadSpec)

/-- 'laws.FnThreads', WHERE WHAT IT READS IS OF BULK AT MOST 1048576: true; the input reads as it did. -/
def fnThreadsUptoRow : OpenClaim := { program := "ytkgabnhfjmldbaa", sum := "c36bc5af0b9e6e2d02f3cbc4f1db89953939fbe923ddc0d0721a63f4bd0a35a4", func := "loop.example/g03304/laws.FnThreads", spec := "fnThreads", apart := false, narrowed := true }
def FnThreadsUptoSaid : Prop := fnThreadsUptoRow.holds Try.pinned (OpenSpec.upto fnThreadsSpec)

end Rows
end Go.Proofs.Ytkgabnhfjmldbaa
