/-
  DERIVED. GIVEN WITH THE SEED: THE CARDS: each row of YtccejlonkoafgaaDoorRows.lean that lists a variable, with what it lists TIED to the program's text (the seventh form; the later family's looks); each row that meets fmt, with fmt's text TOLD by the authors' own Lean function (tested against real Go, not proved from fmt's source: count such statements apart). THE CARD IS WHAT COUNTS. Prove the row's statement (the work); the ties are given (YtccejlonkoafgaaDoorTie.lean); close each card by the builder's one call (the guide's Derived/Test/ToyasCard.lean, 'card_holds'). Laid BY PROGRAM, IN A SANDBOX (cutbox-door.mjs). By AI agents, Wed Nov 11 2026. No macro, syntax, notation, axiom, sorry.
-/
import Derived.Test.YtccejlonkoafgaaDoorRows
import GoSem.ClaimSeven
namespace Go.Proofs.YtccejlonkoafgaaDoor
namespace Rows

/-- THE TIED CARD OF 'cosignerlaw01.LexPlaces'. -/
def lexPlacesCard : Claim7 := { stood := { row := lexPlacesRow, standIns := [], harness := (true, "95d80897834f3831e200caa41977b3c0c147cd2027fc3ee92cc251f97eabee89"), looks := false }, kinds := [], alts := [], laidByText := true, laidKinds := [.data, .listed, .data, .pinned], laidTests := true, laidLooks := .later }
def LexPlacesCardSaid : Prop := Claim7.holds Tryd.pinned (.plain (OpenSpec.ofChange lexPlacesSpec)) lexPlacesCard

/-- THE TIED CARD OF 'cosignerlaw01.LexLines'. -/
def lexLinesCard : Claim7 := { stood := { row := lexLinesRow, standIns := [], harness := (true, "95d80897834f3831e200caa41977b3c0c147cd2027fc3ee92cc251f97eabee89"), looks := false }, kinds := [], alts := [], laidByText := true, laidKinds := [.data, .listed, .data, .pinned], laidTests := true, laidLooks := .later }
def LexLinesCardSaid : Prop := Claim7.holds Tryd.pinned (.plain (OpenSpec.ofChange lexLinesSpec)) lexLinesCard

/-- THE TIED CARD OF 'cosignerlaw01.LexStands'. -/
def lexStandsCard : Claim7 := { stood := { row := lexStandsRow, standIns := [], harness := (true, "95d80897834f3831e200caa41977b3c0c147cd2027fc3ee92cc251f97eabee89"), looks := false }, kinds := [], alts := [], laidByText := true, laidKinds := [.data, .listed, .data, .pinned], laidTests := true, laidLooks := .later }
def LexStandsCardSaid : Prop := Claim7.holds Tryd.pinned (.plain (OpenSpec.ofChange lexStandsSpec)) lexStandsCard

/-- THE TIED CARD OF 'cosignerlaw01.LexJoins'. -/
def lexJoinsCard : Claim7 := { stood := { row := lexJoinsRow, standIns := [], harness := (true, "95d80897834f3831e200caa41977b3c0c147cd2027fc3ee92cc251f97eabee89"), looks := false }, kinds := [], alts := [], laidByText := true, laidKinds := [.data, .listed, .data, .pinned], laidTests := true, laidLooks := .later }
def LexJoinsCardSaid : Prop := Claim7.holds Tryd.pinned (.plain (OpenSpec.ofChange lexJoinsSpec)) lexJoinsCard

/-- THE TIED CARD OF 'cosignerlaw01.LexReadsBack'. -/
def lexReadsBackCard : Claim7 := { stood := { row := lexReadsBackRow, standIns := [], harness := (true, "95d80897834f3831e200caa41977b3c0c147cd2027fc3ee92cc251f97eabee89"), looks := false }, kinds := [], alts := [], laidByText := true, laidKinds := [.data, .listed, .data, .pinned], laidTests := true, laidLooks := .later }
def LexReadsBackCardSaid : Prop := Claim7.holds Tryd.pinned (.plain (OpenSpec.ofChange lexReadsBackSpec)) lexReadsBackCard

/-- THE TIED CARD OF 'cosignerlaw01.LexTokens'. -/
def lexTokensCard : Claim7 := { stood := { row := lexTokensRow, standIns := [], harness := (true, "95d80897834f3831e200caa41977b3c0c147cd2027fc3ee92cc251f97eabee89"), looks := false }, kinds := [], alts := [], laidByText := true, laidKinds := [.data, .listed, .data, .pinned], laidTests := true, laidLooks := .later }
def LexTokensCardSaid : Prop := Claim7.holds Tryd.pinned (.plain (OpenSpec.ofChange lexTokensSpec)) lexTokensCard

/-- THE TIED CARD OF 'cosignerlaw01.LexShapes'. -/
def lexShapesCard : Claim7 := { stood := { row := lexShapesRow, standIns := [], harness := (true, "95d80897834f3831e200caa41977b3c0c147cd2027fc3ee92cc251f97eabee89"), looks := false }, kinds := [], alts := [], laidByText := true, laidKinds := [.data, .listed, .data, .pinned], laidTests := true, laidLooks := .later }
def LexShapesCardSaid : Prop := Claim7.holds Tryd.pinned (.plain (OpenSpec.ofChange lexShapesSpec)) lexShapesCard

/-- THE TIED CARD OF 'cosignerlaw01.LexTightest'. -/
def lexTightestCard : Claim7 := { stood := { row := lexTightestRow, standIns := [], harness := (true, "95d80897834f3831e200caa41977b3c0c147cd2027fc3ee92cc251f97eabee89"), looks := false }, kinds := [], alts := [], laidByText := true, laidKinds := [.data, .listed, .data, .pinned], laidTests := true, laidLooks := .later }
def LexTightestCardSaid : Prop := Claim7.holds Tryd.pinned (.plain (OpenSpec.ofChange lexTightestSpec)) lexTightestCard

/-- THE TIED CARD OF 'cosignerlaw01.LexComments'. -/
def lexCommentsCard : Claim7 := { stood := { row := lexCommentsRow, standIns := [], harness := (true, "95d80897834f3831e200caa41977b3c0c147cd2027fc3ee92cc251f97eabee89"), looks := false }, kinds := [], alts := [], laidByText := true, laidKinds := [.data, .listed, .data, .pinned], laidTests := true, laidLooks := .later }
def LexCommentsCardSaid : Prop := Claim7.holds Tryd.pinned (.plain (OpenSpec.ofChange lexCommentsSpec)) lexCommentsCard

/-- THE SECOND FORM's CARD OF 'cosignerlaw01.LexPlaces'. -/
def lexPlacesUptoCard : Claim7 := { stood := { row := lexPlacesUptoRow, standIns := [], harness := (true, "95d80897834f3831e200caa41977b3c0c147cd2027fc3ee92cc251f97eabee89"), looks := false }, kinds := [], alts := [], laidByText := true, laidKinds := [.data, .listed, .data, .pinned], laidTests := true, laidLooks := .later }
def LexPlacesUptoCardSaid : Prop := Claim7.holds Tryd.pinned (.plain (OpenSpec.upto lexPlacesSpec)) lexPlacesUptoCard

/-- THE SECOND FORM's CARD OF 'cosignerlaw01.LexLines'. -/
def lexLinesUptoCard : Claim7 := { stood := { row := lexLinesUptoRow, standIns := [], harness := (true, "95d80897834f3831e200caa41977b3c0c147cd2027fc3ee92cc251f97eabee89"), looks := false }, kinds := [], alts := [], laidByText := true, laidKinds := [.data, .listed, .data, .pinned], laidTests := true, laidLooks := .later }
def LexLinesUptoCardSaid : Prop := Claim7.holds Tryd.pinned (.plain (OpenSpec.upto lexLinesSpec)) lexLinesUptoCard

/-- THE SECOND FORM's CARD OF 'cosignerlaw01.LexStands'. -/
def lexStandsUptoCard : Claim7 := { stood := { row := lexStandsUptoRow, standIns := [], harness := (true, "95d80897834f3831e200caa41977b3c0c147cd2027fc3ee92cc251f97eabee89"), looks := false }, kinds := [], alts := [], laidByText := true, laidKinds := [.data, .listed, .data, .pinned], laidTests := true, laidLooks := .later }
def LexStandsUptoCardSaid : Prop := Claim7.holds Tryd.pinned (.plain (OpenSpec.upto lexStandsSpec)) lexStandsUptoCard

/-- THE SECOND FORM's CARD OF 'cosignerlaw01.LexJoins'. -/
def lexJoinsUptoCard : Claim7 := { stood := { row := lexJoinsUptoRow, standIns := [], harness := (true, "95d80897834f3831e200caa41977b3c0c147cd2027fc3ee92cc251f97eabee89"), looks := false }, kinds := [], alts := [], laidByText := true, laidKinds := [.data, .listed, .data, .pinned], laidTests := true, laidLooks := .later }
def LexJoinsUptoCardSaid : Prop := Claim7.holds Tryd.pinned (.plain (OpenSpec.upto lexJoinsSpec)) lexJoinsUptoCard

/-- THE SECOND FORM's CARD OF 'cosignerlaw01.LexReadsBack'. -/
def lexReadsBackUptoCard : Claim7 := { stood := { row := lexReadsBackUptoRow, standIns := [], harness := (true, "95d80897834f3831e200caa41977b3c0c147cd2027fc3ee92cc251f97eabee89"), looks := false }, kinds := [], alts := [], laidByText := true, laidKinds := [.data, .listed, .data, .pinned], laidTests := true, laidLooks := .later }
def LexReadsBackUptoCardSaid : Prop := Claim7.holds Tryd.pinned (.plain (OpenSpec.upto lexReadsBackSpec)) lexReadsBackUptoCard

/-- THE SECOND FORM's CARD OF 'cosignerlaw01.LexTokens'. -/
def lexTokensUptoCard : Claim7 := { stood := { row := lexTokensUptoRow, standIns := [], harness := (true, "95d80897834f3831e200caa41977b3c0c147cd2027fc3ee92cc251f97eabee89"), looks := false }, kinds := [], alts := [], laidByText := true, laidKinds := [.data, .listed, .data, .pinned], laidTests := true, laidLooks := .later }
def LexTokensUptoCardSaid : Prop := Claim7.holds Tryd.pinned (.plain (OpenSpec.upto lexTokensSpec)) lexTokensUptoCard

/-- THE SECOND FORM's CARD OF 'cosignerlaw01.LexShapes'. -/
def lexShapesUptoCard : Claim7 := { stood := { row := lexShapesUptoRow, standIns := [], harness := (true, "95d80897834f3831e200caa41977b3c0c147cd2027fc3ee92cc251f97eabee89"), looks := false }, kinds := [], alts := [], laidByText := true, laidKinds := [.data, .listed, .data, .pinned], laidTests := true, laidLooks := .later }
def LexShapesUptoCardSaid : Prop := Claim7.holds Tryd.pinned (.plain (OpenSpec.upto lexShapesSpec)) lexShapesUptoCard

/-- THE SECOND FORM's CARD OF 'cosignerlaw01.LexTightest'. -/
def lexTightestUptoCard : Claim7 := { stood := { row := lexTightestUptoRow, standIns := [], harness := (true, "95d80897834f3831e200caa41977b3c0c147cd2027fc3ee92cc251f97eabee89"), looks := false }, kinds := [], alts := [], laidByText := true, laidKinds := [.data, .listed, .data, .pinned], laidTests := true, laidLooks := .later }
def LexTightestUptoCardSaid : Prop := Claim7.holds Tryd.pinned (.plain (OpenSpec.upto lexTightestSpec)) lexTightestUptoCard

/-- THE SECOND FORM's CARD OF 'cosignerlaw01.LexComments'. -/
def lexCommentsUptoCard : Claim7 := { stood := { row := lexCommentsUptoRow, standIns := [], harness := (true, "95d80897834f3831e200caa41977b3c0c147cd2027fc3ee92cc251f97eabee89"), looks := false }, kinds := [], alts := [], laidByText := true, laidKinds := [.data, .listed, .data, .pinned], laidTests := true, laidLooks := .later }
def LexCommentsUptoCardSaid : Prop := Claim7.holds Tryd.pinned (.plain (OpenSpec.upto lexCommentsSpec)) lexCommentsUptoCard
end Rows
end Go.Proofs.YtccejlonkoafgaaDoor
