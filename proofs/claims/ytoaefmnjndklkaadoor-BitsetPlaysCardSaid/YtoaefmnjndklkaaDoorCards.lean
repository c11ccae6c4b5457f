/-
  DERIVED. GIVEN WITH THE SEED: THE CARDS: each row of YtoaefmnjndklkaaDoorRows.lean that lists a variable, with what it lists TIED to the program's text (the seventh form; the later family's looks); each row that meets fmt, with fmt's text TOLD by the authors' own Lean function (tested against real Go, not proved from fmt's source: count such statements apart). THE CARD IS WHAT COUNTS. Prove the row's statement (the work); the ties are given (YtoaefmnjndklkaaDoorTie.lean); close each card by the builder's one call (the guide's Derived/Test/ToyasCard.lean, 'card_holds'). Laid BY PROGRAM, IN A SANDBOX (cutbox-door.mjs). By AI agents, Wed Nov 11 2026. No macro, syntax, notation, axiom, sorry.
-/
import Derived.Test.YtoaefmnjndklkaaDoorRows
import GoSem.ClaimSeven
namespace Go.Proofs.YtoaefmnjndklkaaDoor
namespace Rows

/-- THE TIED CARD OF 'cloakroomlaw47.BitsetRank'. -/
def bitsetRankCard : Claim7 := { stood := { row := bitsetRankRow, standIns := [], harness := (true, "308016d42a4d031eb4b868a1794fe95e8f5443c8f722dd5ee4ebe3c8ea225dc1"), looks := false }, kinds := [], alts := [], laidByText := true, laidKinds := [.data], laidTests := true, laidLooks := .later }
def BitsetRankCardSaid : Prop := Claim7.holds Tryd.pinned (.plain (OpenSpec.ofChange bitsetRankSpec)) bitsetRankCard

/-- THE TIED CARD OF 'cloakroomlaw47.BitsetPlays'. -/
def bitsetPlaysCard : Claim7 := { stood := { row := bitsetPlaysRow, standIns := [], harness := (true, "308016d42a4d031eb4b868a1794fe95e8f5443c8f722dd5ee4ebe3c8ea225dc1"), looks := false }, kinds := [], alts := [], laidByText := true, laidKinds := [.data], laidTests := true, laidLooks := .later }
def BitsetPlaysCardSaid : Prop := Claim7.holds Tryd.pinned (.plain (OpenSpec.ofChange bitsetPlaysSpec)) bitsetPlaysCard

/-- THE SECOND FORM's CARD OF 'cloakroomlaw47.BitsetRank'. -/
def bitsetRankUptoCard : Claim7 := { stood := { row := bitsetRankUptoRow, standIns := [], harness := (true, "308016d42a4d031eb4b868a1794fe95e8f5443c8f722dd5ee4ebe3c8ea225dc1"), looks := false }, kinds := [], alts := [], laidByText := true, laidKinds := [.data], laidTests := true, laidLooks := .later }
def BitsetRankUptoCardSaid : Prop := Claim7.holds Tryd.pinned (.plain (OpenSpec.upto bitsetRankSpec)) bitsetRankUptoCard

/-- THE SECOND FORM's CARD OF 'cloakroomlaw47.BitsetPlays'. -/
def bitsetPlaysUptoCard : Claim7 := { stood := { row := bitsetPlaysUptoRow, standIns := [], harness := (true, "308016d42a4d031eb4b868a1794fe95e8f5443c8f722dd5ee4ebe3c8ea225dc1"), looks := false }, kinds := [], alts := [], laidByText := true, laidKinds := [.data], laidTests := true, laidLooks := .later }
def BitsetPlaysUptoCardSaid : Prop := Claim7.holds Tryd.pinned (.plain (OpenSpec.upto bitsetPlaysSpec)) bitsetPlaysUptoCard
end Rows
end Go.Proofs.YtoaefmnjndklkaaDoor
