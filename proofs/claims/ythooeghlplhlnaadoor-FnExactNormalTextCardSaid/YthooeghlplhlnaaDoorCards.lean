/-
  DERIVED. GIVEN WITH THE SEED: THE CARDS: each row of YthooeghlplhlnaaDoorRows.lean that lists a variable, with what it lists TIED to the program's text (the seventh form; the later family's looks); each row that meets fmt, with fmt's text TOLD by the authors' own Lean function (tested against real Go, not proved from fmt's source: count such statements apart). THE CARD IS WHAT COUNTS. Prove the row's statement (the work); the ties are given (YthooeghlplhlnaaDoorTie.lean); close each card by the builder's one call (the guide's Derived/Test/ToyasCard.lean, 'card_holds'). Laid BY PROGRAM, IN A SANDBOX (cutbox-door.mjs). By AI agents, Wed Nov 11 2026. No macro, syntax, notation, axiom, sorry.
-/
import Derived.Test.YthooeghlplhlnaaDoorRows
import GoSem.ClaimSeven
namespace Go.Proofs.YthooeghlplhlnaaDoor
namespace Rows

/-- THE TIED CARD OF 'laws.FnRules'. -/
def fnRulesCard : Claim7 := { stood := { row := fnRulesRow, standIns := [], harness := (true, "429ce0c421cbe5389e7e972e72956a104d5c71799ba2cdb319502197c3ab68bc"), looks := false }, kinds := [], alts := [], laidByText := true, laidKinds := [.data, .pinned], laidTests := true, laidLooks := .later }
def FnRulesCardSaid : Prop := Claim7.holds Tryd.pinned (.plain (OpenSpec.ofChange fnRulesSpec)) fnRulesCard

/-- THE TIED CARD OF 'laws.FnExactNormalText'. -/
def fnExactNormalTextCard : Claim7 := { stood := { row := fnExactNormalTextRow, standIns := [], harness := (true, "429ce0c421cbe5389e7e972e72956a104d5c71799ba2cdb319502197c3ab68bc"), looks := false }, kinds := [], alts := [], laidByText := true, laidKinds := [.data, .data, .data, .data, .pinned], laidTests := true, laidLooks := .later }
def FnExactNormalTextCardSaid : Prop := Claim7.holds Tryd.pinned (.plain (OpenSpec.ofChange fnExactNormalTextSpec)) fnExactNormalTextCard

/-- THE TIED CARD OF 'laws.FnNormals'. -/
def fnNormalsCard : Claim7 := { stood := { row := fnNormalsRow, standIns := [], harness := (true, "429ce0c421cbe5389e7e972e72956a104d5c71799ba2cdb319502197c3ab68bc"), looks := false }, kinds := [], alts := [], laidByText := true, laidKinds := [.data, .data, .data, .data, .pinned], laidTests := true, laidLooks := .later }
def FnNormalsCardSaid : Prop := Claim7.holds Tryd.pinned (.plain (OpenSpec.ofChange fnNormalsSpec)) fnNormalsCard

/-- THE TIED CARD OF 'laws.FnExactHasBlobs'. -/
def fnExactHasBlobsCard : Claim7 := { stood := { row := fnExactHasBlobsRow, standIns := [], harness := (true, "429ce0c421cbe5389e7e972e72956a104d5c71799ba2cdb319502197c3ab68bc"), looks := false }, kinds := [], alts := [], laidByText := true, laidKinds := [.data, .data, .data, .data, .pinned], laidTests := true, laidLooks := .later }
def FnExactHasBlobsCardSaid : Prop := Claim7.holds Tryd.pinned (.plain (OpenSpec.ofChange fnExactHasBlobsSpec)) fnExactHasBlobsCard

/-- THE TIED CARD OF 'laws.FnExactSwapStages'. -/
def fnExactSwapStagesCard : Claim7 := { stood := { row := fnExactSwapStagesRow, standIns := [], harness := (true, "429ce0c421cbe5389e7e972e72956a104d5c71799ba2cdb319502197c3ab68bc"), looks := false }, kinds := [], alts := [], laidByText := true, laidKinds := [.data, .pinned], laidTests := true, laidLooks := .later }
def FnExactSwapStagesCardSaid : Prop := Claim7.holds Tryd.pinned (.plain (OpenSpec.ofChange fnExactSwapStagesSpec)) fnExactSwapStagesCard

/-- THE SECOND FORM's CARD OF 'laws.FnRules'. -/
def fnRulesUptoCard : Claim7 := { stood := { row := fnRulesUptoRow, standIns := [], harness := (true, "429ce0c421cbe5389e7e972e72956a104d5c71799ba2cdb319502197c3ab68bc"), looks := false }, kinds := [], alts := [], laidByText := true, laidKinds := [.data, .pinned], laidTests := true, laidLooks := .later }
def FnRulesUptoCardSaid : Prop := Claim7.holds Tryd.pinned (.plain (OpenSpec.upto fnRulesSpec)) fnRulesUptoCard

/-- THE SECOND FORM's CARD OF 'laws.FnExactNormalText'. -/
def fnExactNormalTextUptoCard : Claim7 := { stood := { row := fnExactNormalTextUptoRow, standIns := [], harness := (true, "429ce0c421cbe5389e7e972e72956a104d5c71799ba2cdb319502197c3ab68bc"), looks := false }, kinds := [], alts := [], laidByText := true, laidKinds := [.data, .data, .data, .data, .pinned], laidTests := true, laidLooks := .later }
def FnExactNormalTextUptoCardSaid : Prop := Claim7.holds Tryd.pinned (.plain (OpenSpec.upto fnExactNormalTextSpec)) fnExactNormalTextUptoCard

/-- THE SECOND FORM's CARD OF 'laws.FnNormals'. -/
def fnNormalsUptoCard : Claim7 := { stood := { row := fnNormalsUptoRow, standIns := [], harness := (true, "429ce0c421cbe5389e7e972e72956a104d5c71799ba2cdb319502197c3ab68bc"), looks := false }, kinds := [], alts := [], laidByText := true, laidKinds := [.data, .data, .data, .data, .pinned], laidTests := true, laidLooks := .later }
def FnNormalsUptoCardSaid : Prop := Claim7.holds Tryd.pinned (.plain (OpenSpec.upto fnNormalsSpec)) fnNormalsUptoCard

/-- THE SECOND FORM's CARD OF 'laws.FnExactHasBlobs'. -/
def fnExactHasBlobsUptoCard : Claim7 := { stood := { row := fnExactHasBlobsUptoRow, standIns := [], harness := (true, "429ce0c421cbe5389e7e972e72956a104d5c71799ba2cdb319502197c3ab68bc"), looks := false }, kinds := [], alts := [], laidByText := true, laidKinds := [.data, .data, .data, .data, .pinned], laidTests := true, laidLooks := .later }
def FnExactHasBlobsUptoCardSaid : Prop := Claim7.holds Tryd.pinned (.plain (OpenSpec.upto fnExactHasBlobsSpec)) fnExactHasBlobsUptoCard

/-- THE SECOND FORM's CARD OF 'laws.FnExactSwapStages'. -/
def fnExactSwapStagesUptoCard : Claim7 := { stood := { row := fnExactSwapStagesUptoRow, standIns := [], harness := (true, "429ce0c421cbe5389e7e972e72956a104d5c71799ba2cdb319502197c3ab68bc"), looks := false }, kinds := [], alts := [], laidByText := true, laidKinds := [.data, .pinned], laidTests := true, laidLooks := .later }
def FnExactSwapStagesUptoCardSaid : Prop := Claim7.holds Tryd.pinned (.plain (OpenSpec.upto fnExactSwapStagesSpec)) fnExactSwapStagesUptoCard
end Rows
end Go.Proofs.YthooeghlplhlnaaDoor
