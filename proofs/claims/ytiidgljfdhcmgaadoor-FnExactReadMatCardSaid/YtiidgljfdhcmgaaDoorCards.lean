/-
  DERIVED. GIVEN WITH THE SEED: THE CARDS: each row of YtiidgljfdhcmgaaDoorRows.lean that lists a variable, with what it lists TIED to the program's text (the seventh form; the later family's looks); each row that meets fmt, with fmt's text TOLD by the authors' own Lean function (tested against real Go, not proved from fmt's source: count such statements apart). THE CARD IS WHAT COUNTS. Prove the row's statement (the work); the ties are given (YtiidgljfdhcmgaaDoorTie.lean); close each card by the builder's one call (the guide's Derived/Test/ToyasCard.lean, 'card_holds'). Laid BY PROGRAM, IN A SANDBOX (cutbox-door.mjs). By AI agents, Wed Nov 11 2026. No macro, syntax, notation, axiom, sorry.
-/
import Derived.Test.YtiidgljfdhcmgaaDoorRows
import GoSem.ClaimSeven
namespace Go.Proofs.YtiidgljfdhcmgaaDoor
namespace Rows

/-- THE TIED CARD OF 'laws.FnExactNumberText'. -/
def fnExactNumberTextCard : Claim7 := { stood := { row := fnExactNumberTextRow, standIns := [], harness := (true, "3f56822e8f88dc842864e024d24fdc107e31cc84b4d64d4c57707743ead86a02"), looks := true }, kinds := [], alts := [], laidByText := true, laidKinds := [.data, .data, .data], laidTests := true, laidLooks := .later }
def FnExactNumberTextCardSaid : Prop := Claim7.holds Tryd.pinned (.plain (OpenSpec.ofChange fnExactNumberTextSpec)) fnExactNumberTextCard

/-- THE TIED CARD OF 'laws.FnExactCodeName'. -/
def fnExactCodeNameCard : Claim7 := { stood := { row := fnExactCodeNameRow, standIns := [], harness := (true, "3f56822e8f88dc842864e024d24fdc107e31cc84b4d64d4c57707743ead86a02"), looks := true }, kinds := [], alts := [], laidByText := true, laidKinds := [.data, .pinned], laidTests := true, laidLooks := .later }
def FnExactCodeNameCardSaid : Prop := Claim7.holds Tryd.pinned (.plain (OpenSpec.ofChange fnExactCodeNameSpec)) fnExactCodeNameCard

/-- THE TIED CARD OF 'laws.FnExactVecText'. -/
def fnExactVecTextCard : Claim7 := { stood := { row := fnExactVecTextRow, standIns := [], harness := (true, "3f56822e8f88dc842864e024d24fdc107e31cc84b4d64d4c57707743ead86a02"), looks := true }, kinds := [], alts := [], laidByText := true, laidKinds := [.data, .data, .data], laidTests := true, laidLooks := .later }
def FnExactVecTextCardSaid : Prop := Claim7.holds Tryd.pinned (.plain (OpenSpec.ofChange fnExactVecTextSpec)) fnExactVecTextCard

/-- THE TIED CARD OF 'laws.FnExactMatText'. -/
def fnExactMatTextCard : Claim7 := { stood := { row := fnExactMatTextRow, standIns := [], harness := (true, "3f56822e8f88dc842864e024d24fdc107e31cc84b4d64d4c57707743ead86a02"), looks := true }, kinds := [], alts := [], laidByText := true, laidKinds := [.data, .data, .data], laidTests := true, laidLooks := .later }
def FnExactMatTextCardSaid : Prop := Claim7.holds Tryd.pinned (.plain (OpenSpec.ofChange fnExactMatTextSpec)) fnExactMatTextCard

/-- THE TIED CARD OF 'laws.FnExactReadNumber'. -/
def fnExactReadNumberCard : Claim7 := { stood := { row := fnExactReadNumberRow, standIns := [], harness := (true, "3f56822e8f88dc842864e024d24fdc107e31cc84b4d64d4c57707743ead86a02"), looks := true }, kinds := [], alts := [], laidByText := true, laidKinds := [.data, .data, .data, .sentinel, .sentinel], laidTests := true, laidLooks := .later }
def FnExactReadNumberCardSaid : Prop := Claim7.holds Tryd.pinned (.plain (OpenSpec.ofChange fnExactReadNumberSpec)) fnExactReadNumberCard

/-- THE TIED CARD OF 'laws.FnExactReadVec'. -/
def fnExactReadVecCard : Claim7 := { stood := { row := fnExactReadVecRow, standIns := [], harness := (true, "3f56822e8f88dc842864e024d24fdc107e31cc84b4d64d4c57707743ead86a02"), looks := true }, kinds := [], alts := [], laidByText := true, laidKinds := [.data, .data, .data, .data, .sentinel, .sentinel, .pinned], laidTests := true, laidLooks := .later }
def FnExactReadVecCardSaid : Prop := Claim7.holds Tryd.pinned (.plain (OpenSpec.ofChange fnExactReadVecSpec)) fnExactReadVecCard

/-- THE TIED CARD OF 'laws.FnExactReadMat'. -/
def fnExactReadMatCard : Claim7 := { stood := { row := fnExactReadMatRow, standIns := [], harness := (true, "3f56822e8f88dc842864e024d24fdc107e31cc84b4d64d4c57707743ead86a02"), looks := true }, kinds := [], alts := [], laidByText := true, laidKinds := [.data, .data, .data, .data, .sentinel, .sentinel, .pinned], laidTests := true, laidLooks := .later }
def FnExactReadMatCardSaid : Prop := Claim7.holds Tryd.pinned (.plain (OpenSpec.ofChange fnExactReadMatSpec)) fnExactReadMatCard

/-- THE SECOND FORM's CARD OF 'laws.FnExactNumberText'. -/
def fnExactNumberTextUptoCard : Claim7 := { stood := { row := fnExactNumberTextUptoRow, standIns := [], harness := (true, "3f56822e8f88dc842864e024d24fdc107e31cc84b4d64d4c57707743ead86a02"), looks := true }, kinds := [], alts := [], laidByText := true, laidKinds := [.data, .data, .data], laidTests := true, laidLooks := .later }
def FnExactNumberTextUptoCardSaid : Prop := Claim7.holds Tryd.pinned (.plain (OpenSpec.upto fnExactNumberTextSpec)) fnExactNumberTextUptoCard

/-- THE SECOND FORM's CARD OF 'laws.FnExactCodeName'. -/
def fnExactCodeNameUptoCard : Claim7 := { stood := { row := fnExactCodeNameUptoRow, standIns := [], harness := (true, "3f56822e8f88dc842864e024d24fdc107e31cc84b4d64d4c57707743ead86a02"), looks := true }, kinds := [], alts := [], laidByText := true, laidKinds := [.data, .pinned], laidTests := true, laidLooks := .later }
def FnExactCodeNameUptoCardSaid : Prop := Claim7.holds Tryd.pinned (.plain (OpenSpec.upto fnExactCodeNameSpec)) fnExactCodeNameUptoCard

/-- THE SECOND FORM's CARD OF 'laws.FnExactVecText'. -/
def fnExactVecTextUptoCard : Claim7 := { stood := { row := fnExactVecTextUptoRow, standIns := [], harness := (true, "3f56822e8f88dc842864e024d24fdc107e31cc84b4d64d4c57707743ead86a02"), looks := true }, kinds := [], alts := [], laidByText := true, laidKinds := [.data, .data, .data], laidTests := true, laidLooks := .later }
def FnExactVecTextUptoCardSaid : Prop := Claim7.holds Tryd.pinned (.plain (OpenSpec.upto fnExactVecTextSpec)) fnExactVecTextUptoCard

/-- THE SECOND FORM's CARD OF 'laws.FnExactMatText'. -/
def fnExactMatTextUptoCard : Claim7 := { stood := { row := fnExactMatTextUptoRow, standIns := [], harness := (true, "3f56822e8f88dc842864e024d24fdc107e31cc84b4d64d4c57707743ead86a02"), looks := true }, kinds := [], alts := [], laidByText := true, laidKinds := [.data, .data, .data], laidTests := true, laidLooks := .later }
def FnExactMatTextUptoCardSaid : Prop := Claim7.holds Tryd.pinned (.plain (OpenSpec.upto fnExactMatTextSpec)) fnExactMatTextUptoCard

/-- THE SECOND FORM's CARD OF 'laws.FnExactReadNumber'. -/
def fnExactReadNumberUptoCard : Claim7 := { stood := { row := fnExactReadNumberUptoRow, standIns := [], harness := (true, "3f56822e8f88dc842864e024d24fdc107e31cc84b4d64d4c57707743ead86a02"), looks := true }, kinds := [], alts := [], laidByText := true, laidKinds := [.data, .data, .data, .sentinel, .sentinel], laidTests := true, laidLooks := .later }
def FnExactReadNumberUptoCardSaid : Prop := Claim7.holds Tryd.pinned (.plain (OpenSpec.upto fnExactReadNumberSpec)) fnExactReadNumberUptoCard

/-- THE SECOND FORM's CARD OF 'laws.FnExactReadVec'. -/
def fnExactReadVecUptoCard : Claim7 := { stood := { row := fnExactReadVecUptoRow, standIns := [], harness := (true, "3f56822e8f88dc842864e024d24fdc107e31cc84b4d64d4c57707743ead86a02"), looks := true }, kinds := [], alts := [], laidByText := true, laidKinds := [.data, .data, .data, .data, .sentinel, .sentinel, .pinned], laidTests := true, laidLooks := .later }
def FnExactReadVecUptoCardSaid : Prop := Claim7.holds Tryd.pinned (.plain (OpenSpec.upto fnExactReadVecSpec)) fnExactReadVecUptoCard

/-- THE SECOND FORM's CARD OF 'laws.FnExactReadMat'. -/
def fnExactReadMatUptoCard : Claim7 := { stood := { row := fnExactReadMatUptoRow, standIns := [], harness := (true, "3f56822e8f88dc842864e024d24fdc107e31cc84b4d64d4c57707743ead86a02"), looks := true }, kinds := [], alts := [], laidByText := true, laidKinds := [.data, .data, .data, .data, .sentinel, .sentinel, .pinned], laidTests := true, laidLooks := .later }
def FnExactReadMatUptoCardSaid : Prop := Claim7.holds Tryd.pinned (.plain (OpenSpec.upto fnExactReadMatSpec)) fnExactReadMatUptoCard
end Rows
end Go.Proofs.YtiidgljfdhcmgaaDoor
