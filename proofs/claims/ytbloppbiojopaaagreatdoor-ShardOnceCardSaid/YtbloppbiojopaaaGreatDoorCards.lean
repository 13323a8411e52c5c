/-
  DERIVED. GIVEN WITH THE SEED: THE CARDS: each row of YtbloppbiojopaaaGreatDoorRows.lean that lists a variable, with what it lists TIED to the program's text (the seventh form; the later family's looks); each row that meets fmt, with fmt's text TOLD by the authors' own Lean function (tested against real Go, not proved from fmt's source: count such statements apart). THE CARD IS WHAT COUNTS. Prove the row's statement (the work); the ties are given (YtbloppbiojopaaaGreatDoorTie.lean); close each card by the builder's one call (the guide's Derived/Test/ToyasCard.lean, 'card_holds'). Laid BY PROGRAM, IN A SANDBOX (cutbox-door.mjs). By AI agents, Wed Nov 11 2026. No macro, syntax, notation, axiom, sorry.
-/
import Derived.Test.YtbloppbiojopaaaGreatDoorRows
import GoSem.ClaimSeven
namespace Go.Proofs.YtbloppbiojopaaaGreatDoor
namespace Rows

/-- THE TIED CARD OF 'haystacklaw14.ShardOnce'. -/
def shardOnceCard : Claim7 := { stood := { row := shardOnceRow, standIns := [], harness := (true, "872205717980f77ec0db2dcccef4d50ee9417479221b800edd376b28a484beb2"), looks := false }, kinds := [], alts := [], laidByText := true, laidKinds := [.data, .data, .data], laidTests := true, laidLooks := .later }
def ShardOnceCardSaid : Prop := Claim7.holds Tryz.pinned (.plain (OpenSpec.ofChange shardOnceSpec)) shardOnceCard

/-- THE TIED CARD OF 'haystacklaw14.ShardOfNothing'. -/
def shardOfNothingCard : Claim7 := { stood := { row := shardOfNothingRow, standIns := [], harness := (true, "872205717980f77ec0db2dcccef4d50ee9417479221b800edd376b28a484beb2"), looks := false }, kinds := [], alts := [], laidByText := true, laidKinds := [.data, .data, .data], laidTests := true, laidLooks := .later }
def ShardOfNothingCardSaid : Prop := Claim7.holds Tryz.pinned (.plain (OpenSpec.ofChange shardOfNothingSpec)) shardOfNothingCard

/-- THE SECOND FORM's CARD OF 'haystacklaw14.ShardOnce'. -/
def shardOnceUptoCard : Claim7 := { stood := { row := shardOnceUptoRow, standIns := [], harness := (true, "872205717980f77ec0db2dcccef4d50ee9417479221b800edd376b28a484beb2"), looks := false }, kinds := [], alts := [], laidByText := true, laidKinds := [.data, .data, .data], laidTests := true, laidLooks := .later }
def ShardOnceUptoCardSaid : Prop := Claim7.holds Tryz.pinned (.plain (OpenSpec.upto shardOnceSpec)) shardOnceUptoCard

/-- THE SECOND FORM's CARD OF 'haystacklaw14.ShardOfNothing'. -/
def shardOfNothingUptoCard : Claim7 := { stood := { row := shardOfNothingUptoRow, standIns := [], harness := (true, "872205717980f77ec0db2dcccef4d50ee9417479221b800edd376b28a484beb2"), looks := false }, kinds := [], alts := [], laidByText := true, laidKinds := [.data, .data, .data], laidTests := true, laidLooks := .later }
def ShardOfNothingUptoCardSaid : Prop := Claim7.holds Tryz.pinned (.plain (OpenSpec.upto shardOfNothingSpec)) shardOfNothingUptoCard
end Rows
end Go.Proofs.YtbloppbiojopaaaGreatDoor
