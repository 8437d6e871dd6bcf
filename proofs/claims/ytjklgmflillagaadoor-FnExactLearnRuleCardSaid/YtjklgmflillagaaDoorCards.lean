/-
  DERIVED. GIVEN WITH THE SEED: THE CARDS: each row of YtjklgmflillagaaDoorRows.lean that lists a variable, with what it lists TIED to the program's text (the seventh form; the later family's looks); each row that meets fmt, with fmt's text TOLD by the authors' own Lean function (tested against real Go, not proved from fmt's source: count such statements apart). THE CARD IS WHAT COUNTS. Prove the row's statement (the work); the ties are given (YtjklgmflillagaaDoorTie.lean); close each card by the builder's one call (the guide's Derived/Test/ToyasCard.lean, 'card_holds'). Laid BY PROGRAM, IN A SANDBOX (cutbox-door.mjs). By AI agents, Wed Nov 11 2026. No macro, syntax, notation, axiom, sorry.
-/
import Derived.Test.YtjklgmflillagaaDoorRows
import GoSem.ClaimSeven
namespace Go.Proofs.YtjklgmflillagaaDoor
namespace Rows

/-- THE TIED CARD OF 'laws.FnExactRulesFault'. -/
def fnExactRulesFaultCard : Claim7 := { stood := { row := fnExactRulesFaultRow, standIns := [], harness := (true, "12f4bf02c0f9e4196efaf7cd52e231bbbc10d52c7d92fecc2524a4a4b7e87873"), looks := false }, kinds := [], alts := [], laidByText := true, laidKinds := [.data, .pinned], laidTests := true, laidLooks := .later }
def FnExactRulesFaultCardSaid : Prop := Claim7.holds Tryd.pinned (.plain (OpenSpec.ofChange fnExactRulesFaultSpec)) fnExactRulesFaultCard

/-- THE TIED CARD OF 'laws.FnExactFindRule'. -/
def fnExactFindRuleCard : Claim7 := { stood := { row := fnExactFindRuleRow, standIns := [], harness := (true, "12f4bf02c0f9e4196efaf7cd52e231bbbc10d52c7d92fecc2524a4a4b7e87873"), looks := false }, kinds := [], alts := [], laidByText := true, laidKinds := [.data, .pinned], laidTests := true, laidLooks := .later }
def FnExactFindRuleCardSaid : Prop := Claim7.holds Tryd.pinned (.plain (OpenSpec.ofChange fnExactFindRuleSpec)) fnExactFindRuleCard

/-- THE TIED CARD OF 'laws.FnExactForgetRule'. -/
def fnExactForgetRuleCard : Claim7 := { stood := { row := fnExactForgetRuleRow, standIns := [], harness := (true, "12f4bf02c0f9e4196efaf7cd52e231bbbc10d52c7d92fecc2524a4a4b7e87873"), looks := false }, kinds := [], alts := [], laidByText := true, laidKinds := [.data, .pinned], laidTests := true, laidLooks := .later }
def FnExactForgetRuleCardSaid : Prop := Claim7.holds Tryd.pinned (.plain (OpenSpec.ofChange fnExactForgetRuleSpec)) fnExactForgetRuleCard

/-- THE TIED CARD OF 'laws.FnExactLearnRule'. -/
def fnExactLearnRuleCard : Claim7 := { stood := { row := fnExactLearnRuleRow, standIns := [], harness := (true, "12f4bf02c0f9e4196efaf7cd52e231bbbc10d52c7d92fecc2524a4a4b7e87873"), looks := false }, kinds := [], alts := [], laidByText := true, laidKinds := [.data, .pinned], laidTests := true, laidLooks := .later }
def FnExactLearnRuleCardSaid : Prop := Claim7.holds Tryd.pinned (.plain (OpenSpec.ofChange fnExactLearnRuleSpec)) fnExactLearnRuleCard

/-- THE TIED CARD OF 'laws.FnRules'. -/
def fnRulesCard : Claim7 := { stood := { row := fnRulesRow, standIns := [], harness := (true, "12f4bf02c0f9e4196efaf7cd52e231bbbc10d52c7d92fecc2524a4a4b7e87873"), looks := false }, kinds := [], alts := [], laidByText := true, laidKinds := [.data, .pinned], laidTests := true, laidLooks := .later }
def FnRulesCardSaid : Prop := Claim7.holds Tryd.pinned (.plain (OpenSpec.ofChange fnRulesSpec)) fnRulesCard

/-- THE TIED CARD OF 'laws.FnExactNormalText'. -/
def fnExactNormalTextCard : Claim7 := { stood := { row := fnExactNormalTextRow, standIns := [], harness := (true, "12f4bf02c0f9e4196efaf7cd52e231bbbc10d52c7d92fecc2524a4a4b7e87873"), looks := false }, kinds := [], alts := [], laidByText := true, laidKinds := [.data, .data, .data, .data, .pinned], laidTests := true, laidLooks := .later }
def FnExactNormalTextCardSaid : Prop := Claim7.holds Tryd.pinned (.plain (OpenSpec.ofChange fnExactNormalTextSpec)) fnExactNormalTextCard

/-- THE TIED CARD OF 'laws.FnNormals'. -/
def fnNormalsCard : Claim7 := { stood := { row := fnNormalsRow, standIns := [], harness := (true, "12f4bf02c0f9e4196efaf7cd52e231bbbc10d52c7d92fecc2524a4a4b7e87873"), looks := false }, kinds := [], alts := [], laidByText := true, laidKinds := [.data, .data, .data, .data, .pinned], laidTests := true, laidLooks := .later }
def FnNormalsCardSaid : Prop := Claim7.holds Tryd.pinned (.plain (OpenSpec.ofChange fnNormalsSpec)) fnNormalsCard

/-- THE TIED CARD OF 'laws.FnExactHasBlobs'. -/
def fnExactHasBlobsCard : Claim7 := { stood := { row := fnExactHasBlobsRow, standIns := [], harness := (true, "12f4bf02c0f9e4196efaf7cd52e231bbbc10d52c7d92fecc2524a4a4b7e87873"), looks := false }, kinds := [], alts := [], laidByText := true, laidKinds := [.data, .data, .data, .data, .pinned], laidTests := true, laidLooks := .later }
def FnExactHasBlobsCardSaid : Prop := Claim7.holds Tryd.pinned (.plain (OpenSpec.ofChange fnExactHasBlobsSpec)) fnExactHasBlobsCard

/-- THE SECOND FORM's CARD OF 'laws.FnExactRulesFault'. -/
def fnExactRulesFaultUptoCard : Claim7 := { stood := { row := fnExactRulesFaultUptoRow, standIns := [], harness := (true, "12f4bf02c0f9e4196efaf7cd52e231bbbc10d52c7d92fecc2524a4a4b7e87873"), looks := false }, kinds := [], alts := [], laidByText := true, laidKinds := [.data, .pinned], laidTests := true, laidLooks := .later }
def FnExactRulesFaultUptoCardSaid : Prop := Claim7.holds Tryd.pinned (.plain (OpenSpec.upto fnExactRulesFaultSpec)) fnExactRulesFaultUptoCard

/-- THE SECOND FORM's CARD OF 'laws.FnExactFindRule'. -/
def fnExactFindRuleUptoCard : Claim7 := { stood := { row := fnExactFindRuleUptoRow, standIns := [], harness := (true, "12f4bf02c0f9e4196efaf7cd52e231bbbc10d52c7d92fecc2524a4a4b7e87873"), looks := false }, kinds := [], alts := [], laidByText := true, laidKinds := [.data, .pinned], laidTests := true, laidLooks := .later }
def FnExactFindRuleUptoCardSaid : Prop := Claim7.holds Tryd.pinned (.plain (OpenSpec.upto fnExactFindRuleSpec)) fnExactFindRuleUptoCard

/-- THE SECOND FORM's CARD OF 'laws.FnExactForgetRule'. -/
def fnExactForgetRuleUptoCard : Claim7 := { stood := { row := fnExactForgetRuleUptoRow, standIns := [], harness := (true, "12f4bf02c0f9e4196efaf7cd52e231bbbc10d52c7d92fecc2524a4a4b7e87873"), looks := false }, kinds := [], alts := [], laidByText := true, laidKinds := [.data, .pinned], laidTests := true, laidLooks := .later }
def FnExactForgetRuleUptoCardSaid : Prop := Claim7.holds Tryd.pinned (.plain (OpenSpec.upto fnExactForgetRuleSpec)) fnExactForgetRuleUptoCard

/-- THE SECOND FORM's CARD OF 'laws.FnExactLearnRule'. -/
def fnExactLearnRuleUptoCard : Claim7 := { stood := { row := fnExactLearnRuleUptoRow, standIns := [], harness := (true, "12f4bf02c0f9e4196efaf7cd52e231bbbc10d52c7d92fecc2524a4a4b7e87873"), looks := false }, kinds := [], alts := [], laidByText := true, laidKinds := [.data, .pinned], laidTests := true, laidLooks := .later }
def FnExactLearnRuleUptoCardSaid : Prop := Claim7.holds Tryd.pinned (.plain (OpenSpec.upto fnExactLearnRuleSpec)) fnExactLearnRuleUptoCard

/-- THE SECOND FORM's CARD OF 'laws.FnRules'. -/
def fnRulesUptoCard : Claim7 := { stood := { row := fnRulesUptoRow, standIns := [], harness := (true, "12f4bf02c0f9e4196efaf7cd52e231bbbc10d52c7d92fecc2524a4a4b7e87873"), looks := false }, kinds := [], alts := [], laidByText := true, laidKinds := [.data, .pinned], laidTests := true, laidLooks := .later }
def FnRulesUptoCardSaid : Prop := Claim7.holds Tryd.pinned (.plain (OpenSpec.upto fnRulesSpec)) fnRulesUptoCard

/-- THE SECOND FORM's CARD OF 'laws.FnExactNormalText'. -/
def fnExactNormalTextUptoCard : Claim7 := { stood := { row := fnExactNormalTextUptoRow, standIns := [], harness := (true, "12f4bf02c0f9e4196efaf7cd52e231bbbc10d52c7d92fecc2524a4a4b7e87873"), looks := false }, kinds := [], alts := [], laidByText := true, laidKinds := [.data, .data, .data, .data, .pinned], laidTests := true, laidLooks := .later }
def FnExactNormalTextUptoCardSaid : Prop := Claim7.holds Tryd.pinned (.plain (OpenSpec.upto fnExactNormalTextSpec)) fnExactNormalTextUptoCard

/-- THE SECOND FORM's CARD OF 'laws.FnNormals'. -/
def fnNormalsUptoCard : Claim7 := { stood := { row := fnNormalsUptoRow, standIns := [], harness := (true, "12f4bf02c0f9e4196efaf7cd52e231bbbc10d52c7d92fecc2524a4a4b7e87873"), looks := false }, kinds := [], alts := [], laidByText := true, laidKinds := [.data, .data, .data, .data, .pinned], laidTests := true, laidLooks := .later }
def FnNormalsUptoCardSaid : Prop := Claim7.holds Tryd.pinned (.plain (OpenSpec.upto fnNormalsSpec)) fnNormalsUptoCard

/-- THE SECOND FORM's CARD OF 'laws.FnExactHasBlobs'. -/
def fnExactHasBlobsUptoCard : Claim7 := { stood := { row := fnExactHasBlobsUptoRow, standIns := [], harness := (true, "12f4bf02c0f9e4196efaf7cd52e231bbbc10d52c7d92fecc2524a4a4b7e87873"), looks := false }, kinds := [], alts := [], laidByText := true, laidKinds := [.data, .data, .data, .data, .pinned], laidTests := true, laidLooks := .later }
def FnExactHasBlobsUptoCardSaid : Prop := Claim7.holds Tryd.pinned (.plain (OpenSpec.upto fnExactHasBlobsSpec)) fnExactHasBlobsUptoCard
end Rows
end Go.Proofs.YtjklgmflillagaaDoor
