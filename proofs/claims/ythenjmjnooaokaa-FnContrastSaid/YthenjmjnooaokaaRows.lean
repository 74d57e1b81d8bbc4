/-
  No cell of these rows narrows 'for every input' (looked for: loops, veiled, ifaces, maps, wideKeys, modest, calm, conditions, laid).
  DERIVED. THE GIVEN ROWS OF THIS SEAT. 8 by the template 'for every input the law returns true; each argument reads behind the call as it read before'; 0 by the template 'total and deterministic' (their statements: YthenjmjnooaokaaTotals.lean).
  GIVEN WITH THE SEED: the statements are not yours to turn. If you find one false, say at which input.
  Laid BY PROGRAM, IN A SANDBOX (cutbox-rows.mjs): the forced cells as the released guide's own fill.sh prints them over the translation 8636cc1fea14fcd3… (all of the seat's roots in one cut). By AI agents, Wed Nov 11 2026. No macro, syntax, notation, axiom, sorry.
-/
import Derived.Test.YthenjmjnooaokaaChecked
import GoSem.Claim
import GoSem.ClaimJoined
import GoSem.ClaimMapViews
import Derived.JoinedTies
import Derived.KernelRfl
namespace Go.Proofs.Ythenjmjnooaokaa
/- THE CELL 'sum', in the pinned program and in every row, IS THE sha256 OF THE DUMP (.gsa) THAT YthenjmjnooaokaaProg.lean LOADS. Nothing in Lean hashes anything: it is a label: what it is worth is what the hold of that sum in a sandbox is worth. -/
noncomputable def Try.pinned : Pinned := { name := "ythenjmjnooaokaa", sum := "8636cc1fea14fcd317cf3de6c95bd50eb0dc8c05cf4b67c1e6b6d1b2e73c1533", checked := Try.checked }
namespace Rows
def none {H : Type} : Left H := { results := [], args := [] }

/-- 'laws.FnExactEntryOk': WHATEVER THE INPUT: true; the input reads as it did. -/
def fnExactEntryOkSpec : ChangeSpec := { name := "fnExactEntryOk", fn := fun _ => fun
  | [d] => { results := [.lit (.bool true)], args := [d] }
  | _ => none }
def fnExactEntryOkRow : OpenClaim := { program := "ythenjmjnooaokaa", sum := "8636cc1fea14fcd317cf3de6c95bd50eb0dc8c05cf4b67c1e6b6d1b2e73c1533", func := "loop.example/g03304/laws.FnExactEntryOk", spec := "fnExactEntryOk", apart := false }
def FnExactEntryOkSaid : Prop := fnExactEntryOkRow.holds Try.pinned (OpenSpec.ofChange fnExactEntryOkSpec)

/-- ITS FALSE NEIGHBOUR: 'it returns false'. Refute it at one input. -/
def fnExactEntryOkWrong : ChangeSpec := { name := "fnExactEntryOk", fn := fun _ => fun
  | [d] => { results := [.lit (.bool false)], args := [d] }
  | _ => none }
def FnExactEntryOkWrongFalsely : Prop := fnExactEntryOkRow.holds Try.pinned (OpenSpec.ofChange fnExactEntryOkWrong)

/-- 'laws.FnExactLikeness': WHATEVER THE INPUT: true; the input reads as it did. -/
def fnExactLikenessSpec : ChangeSpec := { name := "fnExactLikeness", fn := fun _ => fun
  | [d1, d2] => { results := [.lit (.bool true)], args := [d1, d2] }
  | _ => none }
def fnExactLikenessRow : OpenClaim := { program := "ythenjmjnooaokaa", sum := "8636cc1fea14fcd317cf3de6c95bd50eb0dc8c05cf4b67c1e6b6d1b2e73c1533", func := "loop.example/g03304/laws.FnExactLikeness", spec := "fnExactLikeness", apart := false }
def FnExactLikenessSaid : Prop := fnExactLikenessRow.holds Try.pinned (OpenSpec.ofChange fnExactLikenessSpec)

/-- ITS FALSE NEIGHBOUR: 'it returns false'. Refute it at one input. -/
def fnExactLikenessWrong : ChangeSpec := { name := "fnExactLikeness", fn := fun _ => fun
  | [d1, d2] => { results := [.lit (.bool false)], args := [d1, d2] }
  | _ => none }
def FnExactLikenessWrongFalsely : Prop := fnExactLikenessRow.holds Try.pinned (OpenSpec.ofChange fnExactLikenessWrong)

/-- 'laws.FnExactColorwayCount': WHATEVER THE INPUT: true; the input reads as it did. -/
def fnExactColorwayCountSpec : ChangeSpec := { name := "fnExactColorwayCount", fn := fun _ => fun
  | [d] => { results := [.lit (.bool true)], args := [d] }
  | _ => none }
def fnExactColorwayCountRow : OpenClaim := { program := "ythenjmjnooaokaa", sum := "8636cc1fea14fcd317cf3de6c95bd50eb0dc8c05cf4b67c1e6b6d1b2e73c1533", func := "loop.example/g03304/laws.FnExactColorwayCount", spec := "fnExactColorwayCount", apart := false }
def FnExactColorwayCountSaid : Prop := fnExactColorwayCountRow.holds Try.pinned (OpenSpec.ofChange fnExactColorwayCountSpec)

/-- ITS FALSE NEIGHBOUR: 'it returns false'. Refute it at one input. -/
def fnExactColorwayCountWrong : ChangeSpec := { name := "fnExactColorwayCount", fn := fun _ => fun
  | [d] => { results := [.lit (.bool false)], args := [d] }
  | _ => none }
def FnExactColorwayCountWrongFalsely : Prop := fnExactColorwayCountRow.holds Try.pinned (OpenSpec.ofChange fnExactColorwayCountWrong)

/-- 'laws.FnExactBlockContrast': WHATEVER THE INPUT: true; the input reads as it did. -/
def fnExactBlockContrastSpec : ChangeSpec := { name := "fnExactBlockContrast", fn := fun _ => fun
  | [d1, d2] => { results := [.lit (.bool true)], args := [d1, d2] }
  | _ => none }
def fnExactBlockContrastRow : OpenClaim := { program := "ythenjmjnooaokaa", sum := "8636cc1fea14fcd317cf3de6c95bd50eb0dc8c05cf4b67c1e6b6d1b2e73c1533", func := "loop.example/g03304/laws.FnExactBlockContrast", spec := "fnExactBlockContrast", unfollowed := true, recurses := true, apart := false }
def FnExactBlockContrastSaid : Prop := fnExactBlockContrastRow.holds Try.pinned (OpenSpec.ofChange fnExactBlockContrastSpec)

/-- ITS FALSE NEIGHBOUR: 'it returns false'. Refute it at one input. -/
def fnExactBlockContrastWrong : ChangeSpec := { name := "fnExactBlockContrast", fn := fun _ => fun
  | [d1, d2] => { results := [.lit (.bool false)], args := [d1, d2] }
  | _ => none }
def FnExactBlockContrastWrongFalsely : Prop := fnExactBlockContrastRow.holds Try.pinned (OpenSpec.ofChange fnExactBlockContrastWrong)

/-- 'laws.FnExactLeastContrast': WHATEVER THE INPUT: true; the input reads as it did. -/
def fnExactLeastContrastSpec : ChangeSpec := { name := "fnExactLeastContrast", fn := fun _ => fun
  | [d1, d2] => { results := [.lit (.bool true)], args := [d1, d2] }
  | _ => none }
def fnExactLeastContrastRow : OpenClaim := { program := "ythenjmjnooaokaa", sum := "8636cc1fea14fcd317cf3de6c95bd50eb0dc8c05cf4b67c1e6b6d1b2e73c1533", func := "loop.example/g03304/laws.FnExactLeastContrast", spec := "fnExactLeastContrast", unfollowed := true, recurses := true, apart := false }
def FnExactLeastContrastSaid : Prop := fnExactLeastContrastRow.holds Try.pinned (OpenSpec.ofChange fnExactLeastContrastSpec)

/-- ITS FALSE NEIGHBOUR: 'it returns false'. Refute it at one input. -/
def fnExactLeastContrastWrong : ChangeSpec := { name := "fnExactLeastContrast", fn := fun _ => fun
  | [d1, d2] => { results := [.lit (.bool false)], args := [d1, d2] }
  | _ => none }
def FnExactLeastContrastWrongFalsely : Prop := fnExactLeastContrastRow.holds Try.pinned (OpenSpec.ofChange fnExactLeastContrastWrong)

/-- 'laws.FnContrast': WHATEVER THE INPUT: true; the input reads as it did. -/
def fnContrastSpec : ChangeSpec := { name := "fnContrast", fn := fun _ => fun
  | [d] => { results := [.lit (.bool true)], args := [d] }
  | _ => none }
def fnContrastRow : OpenClaim := { program := "ythenjmjnooaokaa", sum := "8636cc1fea14fcd317cf3de6c95bd50eb0dc8c05cf4b67c1e6b6d1b2e73c1533", func := "loop.example/g03304/laws.FnContrast", spec := "fnContrast", unfollowed := true, recurses := true, apart := false }
def FnContrastSaid : Prop := fnContrastRow.holds Try.pinned (OpenSpec.ofChange fnContrastSpec)

/-- ITS FALSE NEIGHBOUR: 'it returns false'. Refute it at one input. -/
def fnContrastWrong : ChangeSpec := { name := "fnContrast", fn := fun _ => fun
  | [d] => { results := [.lit (.bool false)], args := [d] }
  | _ => none }
def FnContrastWrongFalsely : Prop := fnContrastRow.holds Try.pinned (OpenSpec.ofChange fnContrastWrong)

/-- 'laws.FnExactLayoutThread': WHATEVER THE INPUT: true; the input reads as it did. -/
def fnExactLayoutThreadSpec : ChangeSpec := { name := "fnExactLayoutThread", fn := fun _ => fun
  | [d1, d2] => { results := [.lit (.bool true)], args := [d1, d2] }
  | _ => none }
def fnExactLayoutThreadRow : OpenClaim := { program := "ythenjmjnooaokaa", sum := "8636cc1fea14fcd317cf3de6c95bd50eb0dc8c05cf4b67c1e6b6d1b2e73c1533", func := "loop.example/g03304/laws.FnExactLayoutThread", spec := "fnExactLayoutThread", apart := false }
def FnExactLayoutThreadSaid : Prop := fnExactLayoutThreadRow.holds Try.pinned (OpenSpec.ofChange fnExactLayoutThreadSpec)

/-- ITS FALSE NEIGHBOUR: 'it returns false'. Refute it at one input. -/
def fnExactLayoutThreadWrong : ChangeSpec := { name := "fnExactLayoutThread", fn := fun _ => fun
  | [d1, d2] => { results := [.lit (.bool false)], args := [d1, d2] }
  | _ => none }
def FnExactLayoutThreadWrongFalsely : Prop := fnExactLayoutThreadRow.holds Try.pinned (OpenSpec.ofChange fnExactLayoutThreadWrong)

/-- 'laws.FnStitches': WHATEVER THE INPUT: true; the input reads as it did. -/
def fnStitchesSpec : ChangeSpec := { name := "fnStitches", fn := fun _ => fun
  | [d] => { results := [.lit (.bool true)], args := [d] }
  | _ => none }
def fnStitchesRow : OpenClaim := { program := "ythenjmjnooaokaa", sum := "8636cc1fea14fcd317cf3de6c95bd50eb0dc8c05cf4b67c1e6b6d1b2e73c1533", func := "loop.example/g03304/laws.FnStitches", spec := "fnStitches", apart := false }
def FnStitchesSaid : Prop := fnStitchesRow.holds Try.pinned (OpenSpec.ofChange fnStitchesSpec)

/-- ITS FALSE NEIGHBOUR: 'it returns false'. Refute it at one input. -/
def fnStitchesWrong : ChangeSpec := { name := "fnStitches", fn := fun _ => fun
  | [d] => { results := [.lit (.bool false)], args := [d] }
  | _ => none }
def FnStitchesWrongFalsely : Prop := fnStitchesRow.holds Try.pinned (OpenSpec.ofChange fnStitchesWrong)

/- THE SECOND FORM. 'bulk': how many values and letters a reading holds, each counted each time it is reached (what is shared counts as often as it is met; a slice's spare places count too). A statement '..UptoSaid' is the law's where the arguments, and the package variables that the reading takes, are together of bulk at most 1048576: NARROWER than '..Said'. Prove '..Said' where nothing that the law and all that it calls make is longer than what came in: it says more and counts as full. Else prove '..UptoSaid'. A law counts once. -/
mutual
def uptoBulk {H : Type} : DataW H → Nat
  | .lit (.string bytes) => bytes.length + 1
  | .lit _ => 1
  | .nil => 1
  | .ptr d => uptoBulk d + 1
  | .slice elems spare => uptoBulkAll elems + uptoBulkAll spare + 1
  | .agg parts => uptoBulkAll parts + 1
  | .iface _ d => uptoBulk d + 1
  | .map entries => uptoBulkEntries entries + 1
  | .held _ => 1
def uptoBulkAll {H : Type} : List (DataW H) → Nat
  | [] => 0
  | d :: r => uptoBulk d + uptoBulkAll r
def uptoBulkEntries {H : Type} : List (Lit × DataW H) → Nat
  | [] => 0
  | x :: r => uptoBulkEntry x + uptoBulkEntries r
def uptoBulkEntry {H : Type} : Lit × DataW H → Nat
  | (.string bytes, d) => bytes.length + uptoBulk d + 1
  | (_, d) => uptoBulk d + 1
 end
def uptoSmall : (H : Type) → List (DataW H) → Bool := fun _ ds => decide (uptoBulkAll ds ≤ 1048576)
def OpenSpec.upto (s : _root_.Go.ChangeSpec) : _root_.Go.OpenSpec := { _root_.Go.OpenSpec.ofChange s with cond := some uptoSmall }

/-- 'laws.FnExactEntryOk', WHERE WHAT IT READS IS OF BULK AT MOST 1048576: true; the input reads as it did. -/
def fnExactEntryOkUptoRow : OpenClaim := { program := "ythenjmjnooaokaa", sum := "8636cc1fea14fcd317cf3de6c95bd50eb0dc8c05cf4b67c1e6b6d1b2e73c1533", func := "loop.example/g03304/laws.FnExactEntryOk", spec := "fnExactEntryOk", apart := false, narrowed := true }
def FnExactEntryOkUptoSaid : Prop := fnExactEntryOkUptoRow.holds Try.pinned (OpenSpec.upto fnExactEntryOkSpec)

/-- 'laws.FnExactLikeness', WHERE WHAT IT READS IS OF BULK AT MOST 1048576: true; the input reads as it did. -/
def fnExactLikenessUptoRow : OpenClaim := { program := "ythenjmjnooaokaa", sum := "8636cc1fea14fcd317cf3de6c95bd50eb0dc8c05cf4b67c1e6b6d1b2e73c1533", func := "loop.example/g03304/laws.FnExactLikeness", spec := "fnExactLikeness", apart := false, narrowed := true }
def FnExactLikenessUptoSaid : Prop := fnExactLikenessUptoRow.holds Try.pinned (OpenSpec.upto fnExactLikenessSpec)

/-- 'laws.FnExactColorwayCount', WHERE WHAT IT READS IS OF BULK AT MOST 1048576: true; the input reads as it did. -/
def fnExactColorwayCountUptoRow : OpenClaim := { program := "ythenjmjnooaokaa", sum := "8636cc1fea14fcd317cf3de6c95bd50eb0dc8c05cf4b67c1e6b6d1b2e73c1533", func := "loop.example/g03304/laws.FnExactColorwayCount", spec := "fnExactColorwayCount", apart := false, narrowed := true }
def FnExactColorwayCountUptoSaid : Prop := fnExactColorwayCountUptoRow.holds Try.pinned (OpenSpec.upto fnExactColorwayCountSpec)

/-- 'laws.FnExactBlockContrast', WHERE WHAT IT READS IS OF BULK AT MOST 1048576: true; the input reads as it did. -/
def fnExactBlockContrastUptoRow : OpenClaim := { program := "ythenjmjnooaokaa", sum := "8636cc1fea14fcd317cf3de6c95bd50eb0dc8c05cf4b67c1e6b6d1b2e73c1533", func := "loop.example/g03304/laws.FnExactBlockContrast", spec := "fnExactBlockContrast", unfollowed := true, recurses := true, apart := false, narrowed := true }
def FnExactBlockContrastUptoSaid : Prop := fnExactBlockContrastUptoRow.holds Try.pinned (OpenSpec.upto fnExactBlockContrastSpec)

/-- 'laws.FnExactLeastContrast', WHERE WHAT IT READS IS OF BULK AT MOST 1048576: true; the input reads as it did. -/
def fnExactLeastContrastUptoRow : OpenClaim := { program := "ythenjmjnooaokaa", sum := "8636cc1fea14fcd317cf3de6c95bd50eb0dc8c05cf4b67c1e6b6d1b2e73c1533", func := "loop.example/g03304/laws.FnExactLeastContrast", spec := "fnExactLeastContrast", unfollowed := true, recurses := true, apart := false, narrowed := true }
def FnExactLeastContrastUptoSaid : Prop := fnExactLeastContrastUptoRow.holds Try.pinned (OpenSpec.upto fnExactLeastContrastSpec)

/-- 'laws.FnContrast', WHERE WHAT IT READS IS OF BULK AT MOST 1048576: true; the input reads as it did. -/
def fnContrastUptoRow : OpenClaim := { program := "ythenjmjnooaokaa", sum := "8636cc1fea14fcd317cf3de6c95bd50eb0dc8c05cf4b67c1e6b6d1b2e73c1533", func := "loop.example/g03304/laws.FnContrast", spec := "fnContrast", unfollowed := true, recurses := true, apart := false, narrowed := true }
def FnContrastUptoSaid : Prop := fnContrastUptoRow.holds Try.pinned (OpenSpec.upto fnContrastSpec)

/-- 'laws.FnExactLayoutThread', WHERE WHAT IT READS IS OF BULK AT MOST 1048576: true; the input reads as it did. -/
def fnExactLayoutThreadUptoRow : OpenClaim := { program := "ythenjmjnooaokaa", sum := "8636cc1fea14fcd317cf3de6c95bd50eb0dc8c05cf4b67c1e6b6d1b2e73c1533", func := "loop.example/g03304/laws.FnExactLayoutThread", spec := "fnExactLayoutThread", apart := false, narrowed := true }
def FnExactLayoutThreadUptoSaid : Prop := fnExactLayoutThreadUptoRow.holds Try.pinned (OpenSpec.upto fnExactLayoutThreadSpec)

/-- 'laws.FnStitches', WHERE WHAT IT READS IS OF BULK AT MOST 1048576: true; the input reads as it did. -/
def fnStitchesUptoRow : OpenClaim := { program := "ythenjmjnooaokaa", sum := "8636cc1fea14fcd317cf3de6c95bd50eb0dc8c05cf4b67c1e6b6d1b2e73c1533", func := "loop.example/g03304/laws.FnStitches", spec := "fnStitches", apart := false, narrowed := true }
def FnStitchesUptoSaid : Prop := fnStitchesUptoRow.holds Try.pinned (OpenSpec.upto fnStitchesSpec)

end Rows
end Go.Proofs.Ythenjmjnooaokaa
