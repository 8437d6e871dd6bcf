/-
  DERIVED. GIVEN WITH THE SEED: THE CARDS: each row of YthooeghlplhlnaaGreatDoorRows.lean that lists a variable, with what it lists TIED to the program's text (the seventh form; the later family's looks); each row that meets fmt, with fmt's text TOLD by the authors' own Lean function (tested against real Go, not proved from fmt's source: count such statements apart). THE CARD IS WHAT COUNTS. Prove the row's statement (the work); the ties are given (YthooeghlplhlnaaGreatDoorTie.lean); close each card by the builder's one call (the guide's Derived/Test/ToyasCard.lean, 'card_holds'). Laid BY PROGRAM, IN A SANDBOX (cutbox-door.mjs). By AI agents, Wed Nov 11 2026. No macro, syntax, notation, axiom, sorry.
-/
import Derived.Test.YthooeghlplhlnaaGreatDoorRows
import GoSem.ClaimSeven
namespace Go.Proofs.YthooeghlplhlnaaGreatDoor
namespace Rows

/-- THE TIED CARD OF 'laws.FnExactParseIndex'. -/
def fnExactParseIndexCard : Claim7 := { stood := { row := fnExactParseIndexRow, standIns := [], harness := (true, "a28e41d2057e5011f6d56d5d579356035f2c5cf980a96ae5961b7ed7da027c00"), looks := false }, kinds := [], alts := [], laidByText := true, laidKinds := [.data, .data, .data, .data, .pinned], laidTests := true, laidLooks := .later }
def FnExactParseIndexCardSaid : Prop := Claim7.holds Tryz.pinned (.plain (OpenSpec.ofChange fnExactParseIndexSpec)) fnExactParseIndexCard

/-- THE TIED CARD OF 'laws.FnIndexTexts'. -/
def fnIndexTextsCard : Claim7 := { stood := { row := fnIndexTextsRow, standIns := [], harness := (true, "a28e41d2057e5011f6d56d5d579356035f2c5cf980a96ae5961b7ed7da027c00"), looks := false }, kinds := [], alts := [], laidByText := true, laidKinds := [.data, .data, .data, .data, .pinned], laidTests := true, laidLooks := .later }
def FnIndexTextsCardSaid : Prop := Claim7.holds Tryz.pinned (.plain (OpenSpec.ofChange fnIndexTextsSpec)) fnIndexTextsCard

/-- THE TIED CARD OF 'laws.FnResolves'. -/
def fnResolvesCard : Claim7 := { stood := { row := fnResolvesRow, standIns := [], harness := (true, "a28e41d2057e5011f6d56d5d579356035f2c5cf980a96ae5961b7ed7da027c00"), looks := false }, kinds := [], alts := [], laidByText := true, laidKinds := [.data, .pinned], laidTests := true, laidLooks := .later }
def FnResolvesCardSaid : Prop := Claim7.holds Tryz.pinned (.plain (OpenSpec.ofChange fnResolvesSpec)) fnResolvesCard

/-- THE SECOND FORM's CARD OF 'laws.FnExactParseIndex'. -/
def fnExactParseIndexUptoCard : Claim7 := { stood := { row := fnExactParseIndexUptoRow, standIns := [], harness := (true, "a28e41d2057e5011f6d56d5d579356035f2c5cf980a96ae5961b7ed7da027c00"), looks := false }, kinds := [], alts := [], laidByText := true, laidKinds := [.data, .data, .data, .data, .pinned], laidTests := true, laidLooks := .later }
def FnExactParseIndexUptoCardSaid : Prop := Claim7.holds Tryz.pinned (.plain (OpenSpec.upto fnExactParseIndexSpec)) fnExactParseIndexUptoCard

/-- THE SECOND FORM's CARD OF 'laws.FnIndexTexts'. -/
def fnIndexTextsUptoCard : Claim7 := { stood := { row := fnIndexTextsUptoRow, standIns := [], harness := (true, "a28e41d2057e5011f6d56d5d579356035f2c5cf980a96ae5961b7ed7da027c00"), looks := false }, kinds := [], alts := [], laidByText := true, laidKinds := [.data, .data, .data, .data, .pinned], laidTests := true, laidLooks := .later }
def FnIndexTextsUptoCardSaid : Prop := Claim7.holds Tryz.pinned (.plain (OpenSpec.upto fnIndexTextsSpec)) fnIndexTextsUptoCard

/-- THE SECOND FORM's CARD OF 'laws.FnResolves'. -/
def fnResolvesUptoCard : Claim7 := { stood := { row := fnResolvesUptoRow, standIns := [], harness := (true, "a28e41d2057e5011f6d56d5d579356035f2c5cf980a96ae5961b7ed7da027c00"), looks := false }, kinds := [], alts := [], laidByText := true, laidKinds := [.data, .pinned], laidTests := true, laidLooks := .later }
def FnResolvesUptoCardSaid : Prop := Claim7.holds Tryz.pinned (.plain (OpenSpec.upto fnResolvesSpec)) fnResolvesUptoCard
end Rows
end Go.Proofs.YthooeghlplhlnaaGreatDoor
