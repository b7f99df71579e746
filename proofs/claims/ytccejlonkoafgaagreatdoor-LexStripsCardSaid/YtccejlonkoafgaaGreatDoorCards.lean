/-
  DERIVED. GIVEN WITH THE SEED: THE CARDS: each row of YtccejlonkoafgaaGreatDoorRows.lean that lists a variable, with what it lists TIED to the program's text (the seventh form; the later family's looks); each row that meets fmt, with fmt's text TOLD by the authors' own Lean function (tested against real Go, not proved from fmt's source: count such statements apart). THE CARD IS WHAT COUNTS. Prove the row's statement (the work); the ties are given (YtccejlonkoafgaaGreatDoorTie.lean); close each card by the builder's one call (the guide's Derived/Test/ToyasCard.lean, 'card_holds'). Laid BY PROGRAM, IN A SANDBOX (cutbox-door.mjs). By AI agents, Wed Nov 11 2026. No macro, syntax, notation, axiom, sorry.
-/
import Derived.Test.YtccejlonkoafgaaGreatDoorRows
import GoSem.ClaimSeven
namespace Go.Proofs.YtccejlonkoafgaaGreatDoor
namespace Rows

/-- THE TIED CARD OF 'cosignerlaw01.LexPatches'. -/
def lexPatchesCard : Claim7 := { stood := { row := lexPatchesRow, standIns := [], harness := (true, "e4e6579d5f83b12412da746856a7387b26c396d56e128c5a361c0c886e08e3a7"), looks := false }, kinds := [], alts := [], laidByText := true, laidKinds := [.data, .listed, .data, .pinned], laidTests := true, laidLooks := .later }
def LexPatchesCardSaid : Prop := Claim7.holds Tryz.pinned (.plain (OpenSpec.ofChange lexPatchesSpec)) lexPatchesCard

/-- THE TIED CARD OF 'cosignerlaw01.LexWrites'. -/
def lexWritesCard : Claim7 := { stood := { row := lexWritesRow, standIns := [], harness := (true, "e4e6579d5f83b12412da746856a7387b26c396d56e128c5a361c0c886e08e3a7"), looks := false }, kinds := [], alts := [], laidByText := true, laidKinds := [.data, .listed, .data, .pinned], laidTests := true, laidLooks := .later }
def LexWritesCardSaid : Prop := Claim7.holds Tryz.pinned (.plain (OpenSpec.ofChange lexWritesSpec)) lexWritesCard

/-- THE TIED CARD OF 'cosignerlaw01.LexStrips'. -/
def lexStripsCard : Claim7 := { stood := { row := lexStripsRow, standIns := [], harness := (true, "e4e6579d5f83b12412da746856a7387b26c396d56e128c5a361c0c886e08e3a7"), looks := false }, kinds := [], alts := [], laidByText := true, laidKinds := [.data, .listed, .data, .pinned], laidTests := true, laidLooks := .later }
def LexStripsCardSaid : Prop := Claim7.holds Tryz.pinned (.plain (OpenSpec.ofChange lexStripsSpec)) lexStripsCard

/-- THE SECOND FORM's CARD OF 'cosignerlaw01.LexPatches'. -/
def lexPatchesUptoCard : Claim7 := { stood := { row := lexPatchesUptoRow, standIns := [], harness := (true, "e4e6579d5f83b12412da746856a7387b26c396d56e128c5a361c0c886e08e3a7"), looks := false }, kinds := [], alts := [], laidByText := true, laidKinds := [.data, .listed, .data, .pinned], laidTests := true, laidLooks := .later }
def LexPatchesUptoCardSaid : Prop := Claim7.holds Tryz.pinned (.plain (OpenSpec.upto lexPatchesSpec)) lexPatchesUptoCard

/-- THE SECOND FORM's CARD OF 'cosignerlaw01.LexWrites'. -/
def lexWritesUptoCard : Claim7 := { stood := { row := lexWritesUptoRow, standIns := [], harness := (true, "e4e6579d5f83b12412da746856a7387b26c396d56e128c5a361c0c886e08e3a7"), looks := false }, kinds := [], alts := [], laidByText := true, laidKinds := [.data, .listed, .data, .pinned], laidTests := true, laidLooks := .later }
def LexWritesUptoCardSaid : Prop := Claim7.holds Tryz.pinned (.plain (OpenSpec.upto lexWritesSpec)) lexWritesUptoCard

/-- THE SECOND FORM's CARD OF 'cosignerlaw01.LexStrips'. -/
def lexStripsUptoCard : Claim7 := { stood := { row := lexStripsUptoRow, standIns := [], harness := (true, "e4e6579d5f83b12412da746856a7387b26c396d56e128c5a361c0c886e08e3a7"), looks := false }, kinds := [], alts := [], laidByText := true, laidKinds := [.data, .listed, .data, .pinned], laidTests := true, laidLooks := .later }
def LexStripsUptoCardSaid : Prop := Claim7.holds Tryz.pinned (.plain (OpenSpec.upto lexStripsSpec)) lexStripsUptoCard
end Rows
end Go.Proofs.YtccejlonkoafgaaGreatDoor
