/-
  DERIVED. GIVEN WITH THE SEED: THE CARDS: each row of YtkdkpnidiehdfaaDoorRows.lean that lists a variable, with what it lists TIED to the program's text (the seventh form; the later family's looks); each row that meets fmt, with fmt's text TOLD by the authors' own Lean function (tested against real Go, not proved from fmt's source: count such statements apart). THE CARD IS WHAT COUNTS. Prove the row's statement (the work); the ties are given (YtkdkpnidiehdfaaDoorTie.lean); close each card by the builder's one call (the guide's Derived/Test/ToyasCard.lean, 'card_holds'). Laid BY PROGRAM, IN A SANDBOX (cutbox-door.mjs). By AI agents, Wed Nov 11 2026. No macro, syntax, notation, axiom, sorry.
-/
import Derived.Test.YtkdkpnidiehdfaaDoorRows
import GoSem.ClaimSeven
namespace Go.Proofs.YtkdkpnidiehdfaaDoor
namespace Rows

/-- THE TIED CARD OF 'assizelaw02.DigestSums'. -/
def digestSumsCard : Claim7 := { stood := { row := digestSumsRow, standIns := [], harness := (true, "daa407ba3c6ac3e7b7bb02b4730c569b007598488cea7a233a63ae60a3eca6af"), looks := false }, kinds := [], alts := [], laidByText := true, laidKinds := [.data], laidTests := true, laidLooks := .later }
def DigestSumsCardSaid : Prop := Claim7.holds Tryd.pinned (.plain (OpenSpec.ofChange digestSumsSpec)) digestSumsCard

/-- THE TIED CARD OF 'assizelaw02.DigestNil'. -/
def digestNilCard : Claim7 := { stood := { row := digestNilRow, standIns := [], harness := (true, "daa407ba3c6ac3e7b7bb02b4730c569b007598488cea7a233a63ae60a3eca6af"), looks := false }, kinds := [], alts := [], laidByText := true, laidKinds := [.data], laidTests := true, laidLooks := .later }
def DigestNilCardSaid : Prop := Claim7.holds Tryd.pinned (.plain (OpenSpec.ofChange digestNilSpec)) digestNilCard

/-- THE TIED CARD OF 'assizelaw02.DigestTokens'. -/
def digestTokensCard : Claim7 := { stood := { row := digestTokensRow, standIns := [], harness := (true, "daa407ba3c6ac3e7b7bb02b4730c569b007598488cea7a233a63ae60a3eca6af"), looks := false }, kinds := [], alts := [], laidByText := true, laidKinds := [.data], laidTests := true, laidLooks := .later }
def DigestTokensCardSaid : Prop := Claim7.holds Tryd.pinned (.plain (OpenSpec.ofChange digestTokensSpec)) digestTokensCard

/-- THE TIED CARD OF 'assizelaw02.DigestScript'. -/
def digestScriptCard : Claim7 := { stood := { row := digestScriptRow, standIns := [], harness := (true, "daa407ba3c6ac3e7b7bb02b4730c569b007598488cea7a233a63ae60a3eca6af"), looks := false }, kinds := [], alts := [], laidByText := true, laidKinds := [.data], laidTests := true, laidLooks := .later }
def DigestScriptCardSaid : Prop := Claim7.holds Tryd.pinned (.plain (OpenSpec.ofChange digestScriptSpec)) digestScriptCard

/-- THE TIED CARD OF 'assizelaw02.DigestTexts'. -/
def digestTextsCard : Claim7 := { stood := { row := digestTextsRow, standIns := [], harness := (true, "daa407ba3c6ac3e7b7bb02b4730c569b007598488cea7a233a63ae60a3eca6af"), looks := false }, kinds := [], alts := [], laidByText := true, laidKinds := [.data], laidTests := true, laidLooks := .later }
def DigestTextsCardSaid : Prop := Claim7.holds Tryd.pinned (.plain (OpenSpec.ofChange digestTextsSpec)) digestTextsCard

/-- THE TIED CARD OF 'assizelaw02.DigestPieces'. -/
def digestPiecesCard : Claim7 := { stood := { row := digestPiecesRow, standIns := [], harness := (true, "daa407ba3c6ac3e7b7bb02b4730c569b007598488cea7a233a63ae60a3eca6af"), looks := false }, kinds := [], alts := [], laidByText := true, laidKinds := [.data], laidTests := true, laidLooks := .later }
def DigestPiecesCardSaid : Prop := Claim7.holds Tryd.pinned (.plain (OpenSpec.ofChange digestPiecesSpec)) digestPiecesCard

/-- THE TIED CARD OF 'assizelaw02.DigestKnown'. -/
def digestKnownCard : Claim7 := { stood := { row := digestKnownRow, standIns := [], harness := (true, "daa407ba3c6ac3e7b7bb02b4730c569b007598488cea7a233a63ae60a3eca6af"), looks := false }, kinds := [], alts := [], laidByText := true, laidKinds := [.data], laidTests := true, laidLooks := .later }
def DigestKnownCardSaid : Prop := Claim7.holds Tryd.pinned (.plain (OpenSpec.ofChange digestKnownSpec)) digestKnownCard

/-- THE TIED CARD OF 'assizelaw24.TenantWalls'. -/
def tenantWallsCard : Claim7 := { stood := { row := tenantWallsRow, standIns := [], harness := (true, "daa407ba3c6ac3e7b7bb02b4730c569b007598488cea7a233a63ae60a3eca6af"), looks := false }, kinds := [], alts := [], laidByText := true, laidKinds := [.data], laidTests := true, laidLooks := .later }
def TenantWallsCardSaid : Prop := Claim7.holds Tryd.pinned (.plain (OpenSpec.ofChange tenantWallsSpec)) tenantWallsCard

/-- THE TIED CARD OF 'assizelaw24.TenantBinds'. -/
def tenantBindsCard : Claim7 := { stood := { row := tenantBindsRow, standIns := [], harness := (true, "daa407ba3c6ac3e7b7bb02b4730c569b007598488cea7a233a63ae60a3eca6af"), looks := false }, kinds := [], alts := [], laidByText := true, laidKinds := [.data], laidTests := true, laidLooks := .later }
def TenantBindsCardSaid : Prop := Claim7.holds Tryd.pinned (.plain (OpenSpec.ofChange tenantBindsSpec)) tenantBindsCard

/-- THE TIED CARD OF 'assizelaw24.TenantKnown'. -/
def tenantKnownCard : Claim7 := { stood := { row := tenantKnownRow, standIns := [], harness := (true, "daa407ba3c6ac3e7b7bb02b4730c569b007598488cea7a233a63ae60a3eca6af"), looks := false }, kinds := [], alts := [], laidByText := true, laidKinds := [.data], laidTests := true, laidLooks := .later }
def TenantKnownCardSaid : Prop := Claim7.holds Tryd.pinned (.plain (OpenSpec.ofChange tenantKnownSpec)) tenantKnownCard

/-- THE TIED CARD OF 'assizelaw24.TenantScript'. -/
def tenantScriptCard : Claim7 := { stood := { row := tenantScriptRow, standIns := [], harness := (true, "daa407ba3c6ac3e7b7bb02b4730c569b007598488cea7a233a63ae60a3eca6af"), looks := false }, kinds := [], alts := [], laidByText := true, laidKinds := [.data], laidTests := true, laidLooks := .later }
def TenantScriptCardSaid : Prop := Claim7.holds Tryd.pinned (.plain (OpenSpec.ofChange tenantScriptSpec)) tenantScriptCard

/-- THE TIED CARD OF 'assizelaw24.TenantNone'. -/
def tenantNoneCard : Claim7 := { stood := { row := tenantNoneRow, standIns := [], harness := (true, "daa407ba3c6ac3e7b7bb02b4730c569b007598488cea7a233a63ae60a3eca6af"), looks := false }, kinds := [], alts := [], laidByText := true, laidKinds := [.data], laidTests := true, laidLooks := .later }
def TenantNoneCardSaid : Prop := Claim7.holds Tryd.pinned (.plain (OpenSpec.ofChange tenantNoneSpec)) tenantNoneCard

/-- THE SECOND FORM's CARD OF 'assizelaw02.DigestSums'. -/
def digestSumsUptoCard : Claim7 := { stood := { row := digestSumsUptoRow, standIns := [], harness := (true, "daa407ba3c6ac3e7b7bb02b4730c569b007598488cea7a233a63ae60a3eca6af"), looks := false }, kinds := [], alts := [], laidByText := true, laidKinds := [.data], laidTests := true, laidLooks := .later }
def DigestSumsUptoCardSaid : Prop := Claim7.holds Tryd.pinned (.plain (OpenSpec.upto digestSumsSpec)) digestSumsUptoCard

/-- THE SECOND FORM's CARD OF 'assizelaw02.DigestNil'. -/
def digestNilUptoCard : Claim7 := { stood := { row := digestNilUptoRow, standIns := [], harness := (true, "daa407ba3c6ac3e7b7bb02b4730c569b007598488cea7a233a63ae60a3eca6af"), looks := false }, kinds := [], alts := [], laidByText := true, laidKinds := [.data], laidTests := true, laidLooks := .later }
def DigestNilUptoCardSaid : Prop := Claim7.holds Tryd.pinned (.plain (OpenSpec.upto digestNilSpec)) digestNilUptoCard

/-- THE SECOND FORM's CARD OF 'assizelaw02.DigestTokens'. -/
def digestTokensUptoCard : Claim7 := { stood := { row := digestTokensUptoRow, standIns := [], harness := (true, "daa407ba3c6ac3e7b7bb02b4730c569b007598488cea7a233a63ae60a3eca6af"), looks := false }, kinds := [], alts := [], laidByText := true, laidKinds := [.data], laidTests := true, laidLooks := .later }
def DigestTokensUptoCardSaid : Prop := Claim7.holds Tryd.pinned (.plain (OpenSpec.upto digestTokensSpec)) digestTokensUptoCard

/-- THE SECOND FORM's CARD OF 'assizelaw02.DigestScript'. -/
def digestScriptUptoCard : Claim7 := { stood := { row := digestScriptUptoRow, standIns := [], harness := (true, "daa407ba3c6ac3e7b7bb02b4730c569b007598488cea7a233a63ae60a3eca6af"), looks := false }, kinds := [], alts := [], laidByText := true, laidKinds := [.data], laidTests := true, laidLooks := .later }
def DigestScriptUptoCardSaid : Prop := Claim7.holds Tryd.pinned (.plain (OpenSpec.upto digestScriptSpec)) digestScriptUptoCard

/-- THE SECOND FORM's CARD OF 'assizelaw02.DigestTexts'. -/
def digestTextsUptoCard : Claim7 := { stood := { row := digestTextsUptoRow, standIns := [], harness := (true, "daa407ba3c6ac3e7b7bb02b4730c569b007598488cea7a233a63ae60a3eca6af"), looks := false }, kinds := [], alts := [], laidByText := true, laidKinds := [.data], laidTests := true, laidLooks := .later }
def DigestTextsUptoCardSaid : Prop := Claim7.holds Tryd.pinned (.plain (OpenSpec.upto digestTextsSpec)) digestTextsUptoCard

/-- THE SECOND FORM's CARD OF 'assizelaw02.DigestPieces'. -/
def digestPiecesUptoCard : Claim7 := { stood := { row := digestPiecesUptoRow, standIns := [], harness := (true, "daa407ba3c6ac3e7b7bb02b4730c569b007598488cea7a233a63ae60a3eca6af"), looks := false }, kinds := [], alts := [], laidByText := true, laidKinds := [.data], laidTests := true, laidLooks := .later }
def DigestPiecesUptoCardSaid : Prop := Claim7.holds Tryd.pinned (.plain (OpenSpec.upto digestPiecesSpec)) digestPiecesUptoCard

/-- THE SECOND FORM's CARD OF 'assizelaw02.DigestKnown'. -/
def digestKnownUptoCard : Claim7 := { stood := { row := digestKnownUptoRow, standIns := [], harness := (true, "daa407ba3c6ac3e7b7bb02b4730c569b007598488cea7a233a63ae60a3eca6af"), looks := false }, kinds := [], alts := [], laidByText := true, laidKinds := [.data], laidTests := true, laidLooks := .later }
def DigestKnownUptoCardSaid : Prop := Claim7.holds Tryd.pinned (.plain (OpenSpec.upto digestKnownSpec)) digestKnownUptoCard

/-- THE SECOND FORM's CARD OF 'assizelaw24.TenantWalls'. -/
def tenantWallsUptoCard : Claim7 := { stood := { row := tenantWallsUptoRow, standIns := [], harness := (true, "daa407ba3c6ac3e7b7bb02b4730c569b007598488cea7a233a63ae60a3eca6af"), looks := false }, kinds := [], alts := [], laidByText := true, laidKinds := [.data], laidTests := true, laidLooks := .later }
def TenantWallsUptoCardSaid : Prop := Claim7.holds Tryd.pinned (.plain (OpenSpec.upto tenantWallsSpec)) tenantWallsUptoCard

/-- THE SECOND FORM's CARD OF 'assizelaw24.TenantBinds'. -/
def tenantBindsUptoCard : Claim7 := { stood := { row := tenantBindsUptoRow, standIns := [], harness := (true, "daa407ba3c6ac3e7b7bb02b4730c569b007598488cea7a233a63ae60a3eca6af"), looks := false }, kinds := [], alts := [], laidByText := true, laidKinds := [.data], laidTests := true, laidLooks := .later }
def TenantBindsUptoCardSaid : Prop := Claim7.holds Tryd.pinned (.plain (OpenSpec.upto tenantBindsSpec)) tenantBindsUptoCard

/-- THE SECOND FORM's CARD OF 'assizelaw24.TenantKnown'. -/
def tenantKnownUptoCard : Claim7 := { stood := { row := tenantKnownUptoRow, standIns := [], harness := (true, "daa407ba3c6ac3e7b7bb02b4730c569b007598488cea7a233a63ae60a3eca6af"), looks := false }, kinds := [], alts := [], laidByText := true, laidKinds := [.data], laidTests := true, laidLooks := .later }
def TenantKnownUptoCardSaid : Prop := Claim7.holds Tryd.pinned (.plain (OpenSpec.upto tenantKnownSpec)) tenantKnownUptoCard

/-- THE SECOND FORM's CARD OF 'assizelaw24.TenantScript'. -/
def tenantScriptUptoCard : Claim7 := { stood := { row := tenantScriptUptoRow, standIns := [], harness := (true, "daa407ba3c6ac3e7b7bb02b4730c569b007598488cea7a233a63ae60a3eca6af"), looks := false }, kinds := [], alts := [], laidByText := true, laidKinds := [.data], laidTests := true, laidLooks := .later }
def TenantScriptUptoCardSaid : Prop := Claim7.holds Tryd.pinned (.plain (OpenSpec.upto tenantScriptSpec)) tenantScriptUptoCard

/-- THE SECOND FORM's CARD OF 'assizelaw24.TenantNone'. -/
def tenantNoneUptoCard : Claim7 := { stood := { row := tenantNoneUptoRow, standIns := [], harness := (true, "daa407ba3c6ac3e7b7bb02b4730c569b007598488cea7a233a63ae60a3eca6af"), looks := false }, kinds := [], alts := [], laidByText := true, laidKinds := [.data], laidTests := true, laidLooks := .later }
def TenantNoneUptoCardSaid : Prop := Claim7.holds Tryd.pinned (.plain (OpenSpec.upto tenantNoneSpec)) tenantNoneUptoCard
end Rows
end Go.Proofs.YtkdkpnidiehdfaaDoor
