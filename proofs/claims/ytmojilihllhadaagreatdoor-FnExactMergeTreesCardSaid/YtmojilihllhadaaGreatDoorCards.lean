/-
  DERIVED. GIVEN WITH THE SEED: THE CARDS: each row of YtmojilihllhadaaGreatDoorRows.lean that lists a variable, with what it lists TIED to the program's text (the seventh form; the later family's looks); each row that meets fmt, with fmt's text TOLD by the authors' own Lean function (tested against real Go, not proved from fmt's source: count such statements apart). THE CARD IS WHAT COUNTS. Prove the row's statement (the work); the ties are given (YtmojilihllhadaaGreatDoorTie.lean); close each card by the builder's one call (the guide's Derived/Test/ToyasCard.lean, 'card_holds'). Laid BY PROGRAM, IN A SANDBOX (cutbox-door.mjs). By AI agents, Wed Nov 11 2026. No macro, syntax, notation, axiom, sorry.
-/
import Derived.Test.YtmojilihllhadaaGreatDoorRows
import GoSem.ClaimSeven
namespace Go.Proofs.YtmojilihllhadaaGreatDoor
namespace Rows

/-- THE TIED CARD OF 'laws.FnExactPreOf'. -/
def fnExactPreOfCard : Claim7 := { stood := { row := fnExactPreOfRow, standIns := [], harness := (true, "b0431d0ad17cba0e12ab3b1292d30dc832356b9ea60eaa710d16127d282b24ad"), looks := false }, kinds := [], alts := [], laidByText := true, laidKinds := [.data, .data, .data, .data, .pinned], laidTests := true, laidLooks := .later }
def FnExactPreOfCardSaid : Prop := Claim7.holds Tryz.pinned (.plain (OpenSpec.ofChange fnExactPreOfSpec)) fnExactPreOfCard

/-- THE TIED CARD OF 'laws.FnExactSettleClashes'. -/
def fnExactSettleClashesCard : Claim7 := { stood := { row := fnExactSettleClashesRow, standIns := [], harness := (true, "b0431d0ad17cba0e12ab3b1292d30dc832356b9ea60eaa710d16127d282b24ad"), looks := false }, kinds := [], alts := [], laidByText := true, laidKinds := [.data, .data, .data, .data, .pinned], laidTests := true, laidLooks := .later }
def FnExactSettleClashesCardSaid : Prop := Claim7.holds Tryz.pinned (.plain (OpenSpec.ofChange fnExactSettleClashesSpec)) fnExactSettleClashesCard

/-- THE TIED CARD OF 'laws.FnExactMergePath'. -/
def fnExactMergePathCard : Claim7 := { stood := { row := fnExactMergePathRow, standIns := [], harness := (true, "b0431d0ad17cba0e12ab3b1292d30dc832356b9ea60eaa710d16127d282b24ad"), looks := false }, kinds := [], alts := [], laidByText := true, laidKinds := [.data, .data, .data, .data, .pinned], laidTests := true, laidLooks := .later }
def FnExactMergePathCardSaid : Prop := Claim7.holds Tryz.pinned (.plain (OpenSpec.ofChange fnExactMergePathSpec)) fnExactMergePathCard

/-- THE TIED CARD OF 'laws.FnExactReplayRules'. -/
def fnExactReplayRulesCard : Claim7 := { stood := { row := fnExactReplayRulesRow, standIns := [], harness := (true, "b0431d0ad17cba0e12ab3b1292d30dc832356b9ea60eaa710d16127d282b24ad"), looks := false }, kinds := [], alts := [], laidByText := true, laidKinds := [.data, .data, .data, .data, .pinned], laidTests := true, laidLooks := .later }
def FnExactReplayRulesCardSaid : Prop := Claim7.holds Tryz.pinned (.plain (OpenSpec.ofChange fnExactReplayRulesSpec)) fnExactReplayRulesCard

/-- THE TIED CARD OF 'laws.FnExactMergeTrees'. -/
def fnExactMergeTreesCard : Claim7 := { stood := { row := fnExactMergeTreesRow, standIns := [], harness := (true, "b0431d0ad17cba0e12ab3b1292d30dc832356b9ea60eaa710d16127d282b24ad"), looks := false }, kinds := [], alts := [], laidByText := true, laidKinds := [.data, .data, .data, .data, .pinned], laidTests := true, laidLooks := .later }
def FnExactMergeTreesCardSaid : Prop := Claim7.holds Tryz.pinned (.plain (OpenSpec.ofChange fnExactMergeTreesSpec)) fnExactMergeTreesCard

/-- THE SECOND FORM's CARD OF 'laws.FnExactPreOf'. -/
def fnExactPreOfUptoCard : Claim7 := { stood := { row := fnExactPreOfUptoRow, standIns := [], harness := (true, "b0431d0ad17cba0e12ab3b1292d30dc832356b9ea60eaa710d16127d282b24ad"), looks := false }, kinds := [], alts := [], laidByText := true, laidKinds := [.data, .data, .data, .data, .pinned], laidTests := true, laidLooks := .later }
def FnExactPreOfUptoCardSaid : Prop := Claim7.holds Tryz.pinned (.plain (OpenSpec.upto fnExactPreOfSpec)) fnExactPreOfUptoCard

/-- THE SECOND FORM's CARD OF 'laws.FnExactSettleClashes'. -/
def fnExactSettleClashesUptoCard : Claim7 := { stood := { row := fnExactSettleClashesUptoRow, standIns := [], harness := (true, "b0431d0ad17cba0e12ab3b1292d30dc832356b9ea60eaa710d16127d282b24ad"), looks := false }, kinds := [], alts := [], laidByText := true, laidKinds := [.data, .data, .data, .data, .pinned], laidTests := true, laidLooks := .later }
def FnExactSettleClashesUptoCardSaid : Prop := Claim7.holds Tryz.pinned (.plain (OpenSpec.upto fnExactSettleClashesSpec)) fnExactSettleClashesUptoCard

/-- THE SECOND FORM's CARD OF 'laws.FnExactMergePath'. -/
def fnExactMergePathUptoCard : Claim7 := { stood := { row := fnExactMergePathUptoRow, standIns := [], harness := (true, "b0431d0ad17cba0e12ab3b1292d30dc832356b9ea60eaa710d16127d282b24ad"), looks := false }, kinds := [], alts := [], laidByText := true, laidKinds := [.data, .data, .data, .data, .pinned], laidTests := true, laidLooks := .later }
def FnExactMergePathUptoCardSaid : Prop := Claim7.holds Tryz.pinned (.plain (OpenSpec.upto fnExactMergePathSpec)) fnExactMergePathUptoCard

/-- THE SECOND FORM's CARD OF 'laws.FnExactReplayRules'. -/
def fnExactReplayRulesUptoCard : Claim7 := { stood := { row := fnExactReplayRulesUptoRow, standIns := [], harness := (true, "b0431d0ad17cba0e12ab3b1292d30dc832356b9ea60eaa710d16127d282b24ad"), looks := false }, kinds := [], alts := [], laidByText := true, laidKinds := [.data, .data, .data, .data, .pinned], laidTests := true, laidLooks := .later }
def FnExactReplayRulesUptoCardSaid : Prop := Claim7.holds Tryz.pinned (.plain (OpenSpec.upto fnExactReplayRulesSpec)) fnExactReplayRulesUptoCard

/-- THE SECOND FORM's CARD OF 'laws.FnExactMergeTrees'. -/
def fnExactMergeTreesUptoCard : Claim7 := { stood := { row := fnExactMergeTreesUptoRow, standIns := [], harness := (true, "b0431d0ad17cba0e12ab3b1292d30dc832356b9ea60eaa710d16127d282b24ad"), looks := false }, kinds := [], alts := [], laidByText := true, laidKinds := [.data, .data, .data, .data, .pinned], laidTests := true, laidLooks := .later }
def FnExactMergeTreesUptoCardSaid : Prop := Claim7.holds Tryz.pinned (.plain (OpenSpec.upto fnExactMergeTreesSpec)) fnExactMergeTreesUptoCard
end Rows
end Go.Proofs.YtmojilihllhadaaGreatDoor
