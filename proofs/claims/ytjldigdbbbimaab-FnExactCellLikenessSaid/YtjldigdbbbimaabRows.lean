/-
  No cell of these rows narrows 'for every input' (looked for: loops, veiled, ifaces, maps, wideKeys, modest, calm, conditions, laid).
  DERIVED. THE GIVEN ROWS OF THIS SEAT. 6 by the template 'for every input the law returns true; each argument reads behind the call as it read before'; 0 by the template 'total and deterministic' (their statements: YtjldigdbbbimaabTotals.lean).
  GIVEN WITH THE SEED: the statements are not yours to turn. If you find one false, say at which input.
  Laid BY PROGRAM, IN A SANDBOX (cutbox-rows.mjs): the forced cells as the released guide's own fill.sh prints them over the translation f214be0d64a4d0ec… (all of the seat's roots in one cut). By AI agents, Wed Nov 11 2026. No macro, syntax, notation, axiom, sorry.
-/
import Derived.Test.YtjldigdbbbimaabChecked
import GoSem.Claim
import GoSem.ClaimJoined
import GoSem.ClaimMapViews
import Derived.JoinedTies
import Derived.KernelRfl
namespace Go.Proofs.Ytjldigdbbbimaab
/- THE CELL 'sum', in the pinned program and in every row, IS THE sha256 OF THE DUMP (.gsa) THAT YtjldigdbbbimaabProg.lean LOADS. Nothing in Lean hashes anything: it is a label: what it is worth is what the hold of that sum in a sandbox is worth. -/
noncomputable def Try.pinned : Pinned := { name := "ytjldigdbbbimaab", sum := "f214be0d64a4d0ec597be0cc8188f3639a1079648c020606341c636f749d1831", checked := Try.checked }
namespace Rows
def none {H : Type} : Left H := { results := [], args := [] }

/-- 'laws.FnThreads': WHATEVER THE INPUT: true; the input reads as it did. -/
def fnThreadsSpec : ChangeSpec := { name := "fnThreads", fn := fun _ => fun
  | [d] => { results := [.lit (.bool true)], args := [d] }
  | _ => none }
def fnThreadsRow : OpenClaim := { program := "ytjldigdbbbimaab", sum := "f214be0d64a4d0ec597be0cc8188f3639a1079648c020606341c636f749d1831", func := "loop.example/g03304/laws.FnThreads", spec := "fnThreads", apart := false }
def FnThreadsSaid : Prop := fnThreadsRow.holds Try.pinned (OpenSpec.ofChange fnThreadsSpec)

/-- ITS FALSE NEIGHBOUR: 'it returns false'. Refute it at one input. -/
def fnThreadsWrong : ChangeSpec := { name := "fnThreads", fn := fun _ => fun
  | [d] => { results := [.lit (.bool false)], args := [d] }
  | _ => none }
def FnThreadsWrongFalsely : Prop := fnThreadsRow.holds Try.pinned (OpenSpec.ofChange fnThreadsWrong)

/-- 'laws.FnExactContrastOk': WHATEVER THE INPUT: true; the input reads as it did. -/
def fnExactContrastOkSpec : ChangeSpec := { name := "fnExactContrastOk", fn := fun _ => fun
  | [d] => { results := [.lit (.bool true)], args := [d] }
  | _ => none }
def fnExactContrastOkRow : OpenClaim := { program := "ytjldigdbbbimaab", sum := "f214be0d64a4d0ec597be0cc8188f3639a1079648c020606341c636f749d1831", func := "loop.example/g03304/laws.FnExactContrastOk", spec := "fnExactContrastOk", apart := false }
def FnExactContrastOkSaid : Prop := fnExactContrastOkRow.holds Try.pinned (OpenSpec.ofChange fnExactContrastOkSpec)

/-- ITS FALSE NEIGHBOUR: 'it returns false'. Refute it at one input. -/
def fnExactContrastOkWrong : ChangeSpec := { name := "fnExactContrastOk", fn := fun _ => fun
  | [d] => { results := [.lit (.bool false)], args := [d] }
  | _ => none }
def FnExactContrastOkWrongFalsely : Prop := fnExactContrastOkRow.holds Try.pinned (OpenSpec.ofChange fnExactContrastOkWrong)

/-- 'laws.FnExactStockOk': WHATEVER THE INPUT: true; the input reads as it did. -/
def fnExactStockOkSpec : ChangeSpec := { name := "fnExactStockOk", fn := fun _ => fun
  | [d] => { results := [.lit (.bool true)], args := [d] }
  | _ => none }
def fnExactStockOkRow : OpenClaim := { program := "ytjldigdbbbimaab", sum := "f214be0d64a4d0ec597be0cc8188f3639a1079648c020606341c636f749d1831", func := "loop.example/g03304/laws.FnExactStockOk", spec := "fnExactStockOk", apart := false }
def FnExactStockOkSaid : Prop := fnExactStockOkRow.holds Try.pinned (OpenSpec.ofChange fnExactStockOkSpec)

/-- ITS FALSE NEIGHBOUR: 'it returns false'. Refute it at one input. -/
def fnExactStockOkWrong : ChangeSpec := { name := "fnExactStockOk", fn := fun _ => fun
  | [d] => { results := [.lit (.bool false)], args := [d] }
  | _ => none }
def FnExactStockOkWrongFalsely : Prop := fnExactStockOkRow.holds Try.pinned (OpenSpec.ofChange fnExactStockOkWrong)

/-- 'laws.FnExactLateDays': WHATEVER THE INPUT: true; the input reads as it did. -/
def fnExactLateDaysSpec : ChangeSpec := { name := "fnExactLateDays", fn := fun _ => fun
  | [d1, d2, d3, d4] => { results := [.lit (.bool true)], args := [d1, d2, d3, d4] }
  | _ => none }
def fnExactLateDaysRow : OpenClaim := { program := "ytjldigdbbbimaab", sum := "f214be0d64a4d0ec597be0cc8188f3639a1079648c020606341c636f749d1831", func := "loop.example/g03304/laws.FnExactLateDays", spec := "fnExactLateDays", apart := false }
def FnExactLateDaysSaid : Prop := fnExactLateDaysRow.holds Try.pinned (OpenSpec.ofChange fnExactLateDaysSpec)

/-- ITS FALSE NEIGHBOUR: 'it returns false'. Refute it at one input. -/
def fnExactLateDaysWrong : ChangeSpec := { name := "fnExactLateDays", fn := fun _ => fun
  | [d1, d2, d3, d4] => { results := [.lit (.bool false)], args := [d1, d2, d3, d4] }
  | _ => none }
def FnExactLateDaysWrongFalsely : Prop := fnExactLateDaysRow.holds Try.pinned (OpenSpec.ofChange fnExactLateDaysWrong)

/-- 'laws.FnExactCellLikeness': WHATEVER THE INPUT: true; the input reads as it did. -/
def fnExactCellLikenessSpec : ChangeSpec := { name := "fnExactCellLikeness", fn := fun _ => fun
  | [d1, d2] => { results := [.lit (.bool true)], args := [d1, d2] }
  | _ => none }
def fnExactCellLikenessRow : OpenClaim := { program := "ytjldigdbbbimaab", sum := "f214be0d64a4d0ec597be0cc8188f3639a1079648c020606341c636f749d1831", func := "loop.example/g03304/laws.FnExactCellLikeness", spec := "fnExactCellLikeness", apart := false }
def FnExactCellLikenessSaid : Prop := fnExactCellLikenessRow.holds Try.pinned (OpenSpec.ofChange fnExactCellLikenessSpec)

/-- ITS FALSE NEIGHBOUR: 'it returns false'. Refute it at one input. -/
def fnExactCellLikenessWrong : ChangeSpec := { name := "fnExactCellLikeness", fn := fun _ => fun
  | [d1, d2] => { results := [.lit (.bool false)], args := [d1, d2] }
  | _ => none }
def FnExactCellLikenessWrongFalsely : Prop := fnExactCellLikenessRow.holds Try.pinned (OpenSpec.ofChange fnExactCellLikenessWrong)

/-- 'laws.FnExactTimesEnough': WHATEVER THE INPUT: true; the input reads as it did. -/
def fnExactTimesEnoughSpec : ChangeSpec := { name := "fnExactTimesEnough", fn := fun _ => fun
  | [d1, d2] => { results := [.lit (.bool true)], args := [d1, d2] }
  | _ => none }
def fnExactTimesEnoughRow : OpenClaim := { program := "ytjldigdbbbimaab", sum := "f214be0d64a4d0ec597be0cc8188f3639a1079648c020606341c636f749d1831", func := "loop.example/g03304/laws.FnExactTimesEnough", spec := "fnExactTimesEnough", apart := false }
def FnExactTimesEnoughSaid : Prop := fnExactTimesEnoughRow.holds Try.pinned (OpenSpec.ofChange fnExactTimesEnoughSpec)

/-- ITS FALSE NEIGHBOUR: 'it returns false'. Refute it at one input. -/
def fnExactTimesEnoughWrong : ChangeSpec := { name := "fnExactTimesEnough", fn := fun _ => fun
  | [d1, d2] => { results := [.lit (.bool false)], args := [d1, d2] }
  | _ => none }
def FnExactTimesEnoughWrongFalsely : Prop := fnExactTimesEnoughRow.holds Try.pinned (OpenSpec.ofChange fnExactTimesEnoughWrong)

/- THE SECOND FORM. 'bulk': how many values and letters a reading holds, each counted each time it is reached (what is shared counts as often as it is met; a slice's spare places count too). A statement '..UptoSaid' is the law's where the arguments, and the package variables that the reading takes, are together of bulk at most 1048576: NARROWER than '..Said'. Prove '..Said' where nothing that the law and all that it calls make is longer than what came in: it says more and counts as full. Else prove '..UptoSaid'. A law counts once. -/
mutual
def uptoBulk {H : Type} : DataW H → Nat
  | .lit (.string bytes) => bytes.length + 1
  | .lit _ => 1
  | .nil => 1
  | .ptr d => uptoBulk d + 1
  | .slice elems spare => uptoBulkAll elems + uptoBulkAll spare + 1
  | .agg parts => uptoBulkAll parts + 1
  | .iface _ d => uptoBulk d + 1
  | .map entries => uptoBulkEntries entries + 1
  | .held _ => 1
def uptoBulkAll {H : Type} : List (DataW H) → Nat
  | [] => 0
  | d :: r => uptoBulk d + uptoBulkAll r
def uptoBulkEntries {H : Type} : List (Lit × DataW H) → Nat
  | [] => 0
  | x :: r => uptoBulkEntry x + uptoBulkEntries r
def uptoBulkEntry {H : Type} : Lit × DataW H → Nat
  | (.string bytes, d) => bytes.length + uptoBulk d + 1
  | (_, d) => uptoBulk d + 1
 end
def uptoSmall : (H : Type) → List (DataW H) → Bool := fun _ ds => decide (uptoBulkAll ds ≤ 1048576)
def OpenSpec.upto (s : _root_.Go.ChangeSpec) : _root_.Go.OpenSpec := { _root_.Go.OpenSpec.ofChange s with cond := some uptoSmall }

/-- 'laws.FnThreads', WHERE WHAT IT READS IS OF BULK AT MOST 1048576: true; the input reads as it did. -/
def fnThreadsUptoRow : OpenClaim := { program := "ytjldigdbbbimaab", sum := "f214be0d64a4d0ec597be0cc8188f3639a1079648c020606341c636f749d1831", func := "loop.example/g03304/laws.FnThreads", spec := "fnThreads", apart := false, narrowed := true }
def FnThreadsUptoSaid : Prop := fnThreadsUptoRow.holds Try.pinned (OpenSpec.upto fnThreadsSpec)

/-- 'laws.FnExactContrastOk', WHERE WHAT IT READS IS OF BULK AT MOST 1048576: true; the input reads as it did. -/
def fnExactContrastOkUptoRow : OpenClaim := { program := "ytjldigdbbbimaab", sum := "f214be0d64a4d0ec597be0cc8188f3639a1079648c020606341c636f749d1831", func := "loop.example/g03304/laws.FnExactContrastOk", spec := "fnExactContrastOk", apart := false, narrowed := true }
def FnExactContrastOkUptoSaid : Prop := fnExactContrastOkUptoRow.holds Try.pinned (OpenSpec.upto fnExactContrastOkSpec)

/-- 'laws.FnExactStockOk', WHERE WHAT IT READS IS OF BULK AT MOST 1048576: true; the input reads as it did. -/
def fnExactStockOkUptoRow : OpenClaim := { program := "ytjldigdbbbimaab", sum := "f214be0d64a4d0ec597be0cc8188f3639a1079648c020606341c636f749d1831", func := "loop.example/g03304/laws.FnExactStockOk", spec := "fnExactStockOk", apart := false, narrowed := true }
def FnExactStockOkUptoSaid : Prop := fnExactStockOkUptoRow.holds Try.pinned (OpenSpec.upto fnExactStockOkSpec)

/-- 'laws.FnExactLateDays', WHERE WHAT IT READS IS OF BULK AT MOST 1048576: true; the input reads as it did. -/
def fnExactLateDaysUptoRow : OpenClaim := { program := "ytjldigdbbbimaab", sum := "f214be0d64a4d0ec597be0cc8188f3639a1079648c020606341c636f749d1831", func := "loop.example/g03304/laws.FnExactLateDays", spec := "fnExactLateDays", apart := false, narrowed := true }
def FnExactLateDaysUptoSaid : Prop := fnExactLateDaysUptoRow.holds Try.pinned (OpenSpec.upto fnExactLateDaysSpec)

/-- 'laws.FnExactCellLikeness', WHERE WHAT IT READS IS OF BULK AT MOST 1048576: true; the input reads as it did. -/
def fnExactCellLikenessUptoRow : OpenClaim := { program := "ytjldigdbbbimaab", sum := "f214be0d64a4d0ec597be0cc8188f3639a1079648c020606341c636f749d1831", func := "loop.example/g03304/laws.FnExactCellLikeness", spec := "fnExactCellLikeness", apart := false, narrowed := true }
def FnExactCellLikenessUptoSaid : Prop := fnExactCellLikenessUptoRow.holds Try.pinned (OpenSpec.upto fnExactCellLikenessSpec)

/-- 'laws.FnExactTimesEnough', WHERE WHAT IT READS IS OF BULK AT MOST 1048576: true; the input reads as it did. -/
def fnExactTimesEnoughUptoRow : OpenClaim := { program := "ytjldigdbbbimaab", sum := "f214be0d64a4d0ec597be0cc8188f3639a1079648c020606341c636f749d1831", func := "loop.example/g03304/laws.FnExactTimesEnough", spec := "fnExactTimesEnough", apart := false, narrowed := true }
def FnExactTimesEnoughUptoSaid : Prop := fnExactTimesEnoughUptoRow.holds Try.pinned (OpenSpec.upto fnExactTimesEnoughSpec)

end Rows
end Go.Proofs.Ytjldigdbbbimaab
