/-
  DERIVED. GIVEN WITH THE SEED: THE CARDS: each row of YtheafiaemcmjaaaDoorRows.lean that lists a variable, with what it lists TIED to the program's text (the seventh form; the later family's looks); each row that meets fmt, with fmt's text TOLD by the authors' own Lean function (tested against real Go, not proved from fmt's source: count such statements apart). THE CARD IS WHAT COUNTS. Prove the row's statement (the work); the ties are given (YtheafiaemcmjaaaDoorTie.lean); close each card by the builder's one call (the guide's Derived/Test/ToyasCard.lean, 'card_holds'). Laid BY PROGRAM, IN A SANDBOX (cutbox-door.mjs). By AI agents, Wed Nov 11 2026. No macro, syntax, notation, axiom, sorry.
-/
import Derived.Test.YtheafiaemcmjaaaDoorRows
import GoSem.ClaimSeven
namespace Go.Proofs.YtheafiaemcmjaaaDoor
namespace Rows

/-- THE TIED CARD OF 'laws.FnExactReadCell'. -/
def fnExactReadCellCard : Claim7 := { stood := { row := fnExactReadCellRow, standIns := [], harness := (true, "a0c4f4ac47263ac429d5746b9202d1d993b77c4f783b473b353d0b63171ef7c8"), looks := false }, kinds := [], alts := [], laidByText := true, laidKinds := [.data, .data, .data], laidTests := true, laidLooks := .later }
def FnExactReadCellCardSaid : Prop := Claim7.holds Tryd.pinned (.plain (OpenSpec.ofChange fnExactReadCellSpec)) fnExactReadCellCard

/-- THE TIED CARD OF 'laws.FnExactQuiltText'. -/
def fnExactQuiltTextCard : Claim7 := { stood := { row := fnExactQuiltTextRow, standIns := [], harness := (true, "a0c4f4ac47263ac429d5746b9202d1d993b77c4f783b473b353d0b63171ef7c8"), looks := false }, kinds := [], alts := [], laidByText := true, laidKinds := [.data, .data, .data], laidTests := true, laidLooks := .later }
def FnExactQuiltTextCardSaid : Prop := Claim7.holds Tryd.pinned (.plain (OpenSpec.ofChange fnExactQuiltTextSpec)) fnExactQuiltTextCard

/-- THE TIED CARD OF 'laws.FnExactBlockText'. -/
def fnExactBlockTextCard : Claim7 := { stood := { row := fnExactBlockTextRow, standIns := [], harness := (true, "a0c4f4ac47263ac429d5746b9202d1d993b77c4f783b473b353d0b63171ef7c8"), looks := false }, kinds := [], alts := [], laidByText := true, laidKinds := [.data, .data, .data], laidTests := true, laidLooks := .later }
def FnExactBlockTextCardSaid : Prop := Claim7.holds Tryd.pinned (.plain (OpenSpec.ofChange fnExactBlockTextSpec)) fnExactBlockTextCard

/-- THE TIED CARD OF 'laws.FnExactReadQuilt'. -/
def fnExactReadQuiltCard : Claim7 := { stood := { row := fnExactReadQuiltRow, standIns := [], harness := (true, "a0c4f4ac47263ac429d5746b9202d1d993b77c4f783b473b353d0b63171ef7c8"), looks := false }, kinds := [], alts := [], laidByText := true, laidKinds := [.data, .data, .data, .data, .pinned], laidTests := true, laidLooks := .later }
def FnExactReadQuiltCardSaid : Prop := Claim7.holds Tryd.pinned (.plain (OpenSpec.ofChange fnExactReadQuiltSpec)) fnExactReadQuiltCard

/-- THE TIED CARD OF 'laws.FnExactReadBlock'. -/
def fnExactReadBlockCard : Claim7 := { stood := { row := fnExactReadBlockRow, standIns := [], harness := (true, "a0c4f4ac47263ac429d5746b9202d1d993b77c4f783b473b353d0b63171ef7c8"), looks := false }, kinds := [], alts := [], laidByText := true, laidKinds := [.data, .data, .data, .data, .pinned], laidTests := true, laidLooks := .later }
def FnExactReadBlockCardSaid : Prop := Claim7.holds Tryd.pinned (.plain (OpenSpec.ofChange fnExactReadBlockSpec)) fnExactReadBlockCard

/-- THE TIED CARD OF 'laws.FnPatterns'. -/
def fnPatternsCard : Claim7 := { stood := { row := fnPatternsRow, standIns := [], harness := (true, "a0c4f4ac47263ac429d5746b9202d1d993b77c4f783b473b353d0b63171ef7c8"), looks := false }, kinds := [], alts := [], laidByText := true, laidKinds := [.data, .data, .data, .data, .pinned], laidTests := true, laidLooks := .later }
def FnPatternsCardSaid : Prop := Claim7.holds Tryd.pinned (.plain (OpenSpec.ofChange fnPatternsSpec)) fnPatternsCard

/-- THE SECOND FORM's CARD OF 'laws.FnExactReadCell'. -/
def fnExactReadCellUptoCard : Claim7 := { stood := { row := fnExactReadCellUptoRow, standIns := [], harness := (true, "a0c4f4ac47263ac429d5746b9202d1d993b77c4f783b473b353d0b63171ef7c8"), looks := false }, kinds := [], alts := [], laidByText := true, laidKinds := [.data, .data, .data], laidTests := true, laidLooks := .later }
def FnExactReadCellUptoCardSaid : Prop := Claim7.holds Tryd.pinned (.plain (OpenSpec.upto fnExactReadCellSpec)) fnExactReadCellUptoCard

/-- THE SECOND FORM's CARD OF 'laws.FnExactQuiltText'. -/
def fnExactQuiltTextUptoCard : Claim7 := { stood := { row := fnExactQuiltTextUptoRow, standIns := [], harness := (true, "a0c4f4ac47263ac429d5746b9202d1d993b77c4f783b473b353d0b63171ef7c8"), looks := false }, kinds := [], alts := [], laidByText := true, laidKinds := [.data, .data, .data], laidTests := true, laidLooks := .later }
def FnExactQuiltTextUptoCardSaid : Prop := Claim7.holds Tryd.pinned (.plain (OpenSpec.upto fnExactQuiltTextSpec)) fnExactQuiltTextUptoCard

/-- THE SECOND FORM's CARD OF 'laws.FnExactBlockText'. -/
def fnExactBlockTextUptoCard : Claim7 := { stood := { row := fnExactBlockTextUptoRow, standIns := [], harness := (true, "a0c4f4ac47263ac429d5746b9202d1d993b77c4f783b473b353d0b63171ef7c8"), looks := false }, kinds := [], alts := [], laidByText := true, laidKinds := [.data, .data, .data], laidTests := true, laidLooks := .later }
def FnExactBlockTextUptoCardSaid : Prop := Claim7.holds Tryd.pinned (.plain (OpenSpec.upto fnExactBlockTextSpec)) fnExactBlockTextUptoCard

/-- THE SECOND FORM's CARD OF 'laws.FnExactReadQuilt'. -/
def fnExactReadQuiltUptoCard : Claim7 := { stood := { row := fnExactReadQuiltUptoRow, standIns := [], harness := (true, "a0c4f4ac47263ac429d5746b9202d1d993b77c4f783b473b353d0b63171ef7c8"), looks := false }, kinds := [], alts := [], laidByText := true, laidKinds := [.data, .data, .data, .data, .pinned], laidTests := true, laidLooks := .later }
def FnExactReadQuiltUptoCardSaid : Prop := Claim7.holds Tryd.pinned (.plain (OpenSpec.upto fnExactReadQuiltSpec)) fnExactReadQuiltUptoCard

/-- THE SECOND FORM's CARD OF 'laws.FnExactReadBlock'. -/
def fnExactReadBlockUptoCard : Claim7 := { stood := { row := fnExactReadBlockUptoRow, standIns := [], harness := (true, "a0c4f4ac47263ac429d5746b9202d1d993b77c4f783b473b353d0b63171ef7c8"), looks := false }, kinds := [], alts := [], laidByText := true, laidKinds := [.data, .data, .data, .data, .pinned], laidTests := true, laidLooks := .later }
def FnExactReadBlockUptoCardSaid : Prop := Claim7.holds Tryd.pinned (.plain (OpenSpec.upto fnExactReadBlockSpec)) fnExactReadBlockUptoCard

/-- THE SECOND FORM's CARD OF 'laws.FnPatterns'. -/
def fnPatternsUptoCard : Claim7 := { stood := { row := fnPatternsUptoRow, standIns := [], harness := (true, "a0c4f4ac47263ac429d5746b9202d1d993b77c4f783b473b353d0b63171ef7c8"), looks := false }, kinds := [], alts := [], laidByText := true, laidKinds := [.data, .data, .data, .data, .pinned], laidTests := true, laidLooks := .later }
def FnPatternsUptoCardSaid : Prop := Claim7.holds Tryd.pinned (.plain (OpenSpec.upto fnPatternsSpec)) fnPatternsUptoCard
end Rows
end Go.Proofs.YtheafiaemcmjaaaDoor
