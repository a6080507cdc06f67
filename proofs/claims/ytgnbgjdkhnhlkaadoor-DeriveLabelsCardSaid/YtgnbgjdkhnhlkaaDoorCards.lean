/-
  DERIVED. GIVEN WITH THE SEED: THE CARDS: each row of YtgnbgjdkhnhlkaaDoorRows.lean that lists a variable, with what it lists TIED to the program's text (the seventh form; the later family's looks); each row that meets fmt, with fmt's text TOLD by the authors' own Lean function (tested against real Go, not proved from fmt's source: count such statements apart). THE CARD IS WHAT COUNTS. Prove the row's statement (the work); the ties are given (YtgnbgjdkhnhlkaaDoorTie.lean); close each card by the builder's one call (the guide's Derived/Test/ToyasCard.lean, 'card_holds'). Laid BY PROGRAM, IN A SANDBOX (cutbox-door.mjs). By AI agents, Wed Nov 11 2026. No macro, syntax, notation, axiom, sorry.
-/
import Derived.Test.YtgnbgjdkhnhlkaaDoorRows
import GoSem.ClaimSeven
namespace Go.Proofs.YtgnbgjdkhnhlkaaDoor
namespace Rows

/-- THE TIED CARD OF 'astragallaw45.DerivePaths'. -/
def derivePathsCard : Claim7 := { stood := { row := derivePathsRow, standIns := [], harness := (true, "34ddc4d17399bf8715a62035adf492f0d63489b6ccc0a639a92c19d8ed48aee6"), looks := false }, kinds := [], alts := [], laidByText := true, laidKinds := [.data, .pinned], laidTests := true, laidLooks := .later }
def DerivePathsCardSaid : Prop := Claim7.holds Tryd.pinned (.plain (OpenSpec.ofChange derivePathsSpec)) derivePathsCard

/-- THE TIED CARD OF 'astragallaw45.DeriveJoins'. -/
def deriveJoinsCard : Claim7 := { stood := { row := deriveJoinsRow, standIns := [], harness := (true, "34ddc4d17399bf8715a62035adf492f0d63489b6ccc0a639a92c19d8ed48aee6"), looks := false }, kinds := [], alts := [], laidByText := true, laidKinds := [.data, .pinned], laidTests := true, laidLooks := .later }
def DeriveJoinsCardSaid : Prop := Claim7.holds Tryd.pinned (.plain (OpenSpec.ofChange deriveJoinsSpec)) deriveJoinsCard

/-- THE TIED CARD OF 'astragallaw45.DeriveLabels'. -/
def deriveLabelsCard : Claim7 := { stood := { row := deriveLabelsRow, standIns := [], harness := (true, "34ddc4d17399bf8715a62035adf492f0d63489b6ccc0a639a92c19d8ed48aee6"), looks := false }, kinds := [], alts := [], laidByText := true, laidKinds := [.data, .pinned], laidTests := true, laidLooks := .later }
def DeriveLabelsCardSaid : Prop := Claim7.holds Tryd.pinned (.plain (OpenSpec.ofChange deriveLabelsSpec)) deriveLabelsCard

/-- THE SECOND FORM's CARD OF 'astragallaw45.DerivePaths'. -/
def derivePathsUptoCard : Claim7 := { stood := { row := derivePathsUptoRow, standIns := [], harness := (true, "34ddc4d17399bf8715a62035adf492f0d63489b6ccc0a639a92c19d8ed48aee6"), looks := false }, kinds := [], alts := [], laidByText := true, laidKinds := [.data, .pinned], laidTests := true, laidLooks := .later }
def DerivePathsUptoCardSaid : Prop := Claim7.holds Tryd.pinned (.plain (OpenSpec.upto derivePathsSpec)) derivePathsUptoCard

/-- THE SECOND FORM's CARD OF 'astragallaw45.DeriveJoins'. -/
def deriveJoinsUptoCard : Claim7 := { stood := { row := deriveJoinsUptoRow, standIns := [], harness := (true, "34ddc4d17399bf8715a62035adf492f0d63489b6ccc0a639a92c19d8ed48aee6"), looks := false }, kinds := [], alts := [], laidByText := true, laidKinds := [.data, .pinned], laidTests := true, laidLooks := .later }
def DeriveJoinsUptoCardSaid : Prop := Claim7.holds Tryd.pinned (.plain (OpenSpec.upto deriveJoinsSpec)) deriveJoinsUptoCard

/-- THE SECOND FORM's CARD OF 'astragallaw45.DeriveLabels'. -/
def deriveLabelsUptoCard : Claim7 := { stood := { row := deriveLabelsUptoRow, standIns := [], harness := (true, "34ddc4d17399bf8715a62035adf492f0d63489b6ccc0a639a92c19d8ed48aee6"), looks := false }, kinds := [], alts := [], laidByText := true, laidKinds := [.data, .pinned], laidTests := true, laidLooks := .later }
def DeriveLabelsUptoCardSaid : Prop := Claim7.holds Tryd.pinned (.plain (OpenSpec.upto deriveLabelsSpec)) deriveLabelsUptoCard
end Rows
end Go.Proofs.YtgnbgjdkhnhlkaaDoor
