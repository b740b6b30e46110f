/-
  DERIVED. GIVEN WITH THE SEED: THE CARDS: each row of YtkaladiliikheaaGreatDoorRows.lean that lists a variable, with what it lists TIED to the program's text (the seventh form; the later family's looks); each row that meets fmt, with fmt's text TOLD by the authors' own Lean function (tested against real Go, not proved from fmt's source: count such statements apart). THE CARD IS WHAT COUNTS. Prove the row's statement (the work); the ties are given (YtkaladiliikheaaGreatDoorTie.lean); close each card by the builder's one call (the guide's Derived/Test/ToyasCard.lean, 'card_holds'). Laid BY PROGRAM, IN A SANDBOX (cutbox-door.mjs). By AI agents, Wed Nov 11 2026. No macro, syntax, notation, axiom, sorry.
-/
import Derived.Test.YtkaladiliikheaaGreatDoorRows
import GoSem.ClaimSeven
namespace Go.Proofs.YtkaladiliikheaaGreatDoor
namespace Rows

/-- THE TIED CARD OF 'tidewaylaw17.PlainReckons'. -/
def plainReckonsCard : Claim7 := { stood := { row := plainReckonsRow, standIns := [], harness := (true, "fe9c558020622163dbbb5a21d3ffcc679060f86678ffde79db16889fdcbb90c2"), looks := true }, kinds := [], alts := [], laidByText := true, laidKinds := [.handle], laidTests := true, laidLooks := .later }
def PlainReckonsCardSaid : Prop := Claim7.holds Tryz.pinned (.plain (OpenSpec.ofChange plainReckonsSpec)) plainReckonsCard

/-- THE TIED CARD OF 'tidewaylaw17.PlainInput'. -/
def plainInputCard : Claim7 := { stood := { row := plainInputRow, standIns := [], harness := (true, "fe9c558020622163dbbb5a21d3ffcc679060f86678ffde79db16889fdcbb90c2"), looks := true }, kinds := [], alts := [], laidByText := true, laidKinds := [.handle], laidTests := true, laidLooks := .later }
def PlainInputCardSaid : Prop := Claim7.holds Tryz.pinned (.plain (OpenSpec.ofChange plainInputSpec)) plainInputCard

/-- THE TIED CARD OF 'tidewaylaw17.PlainCaptures'. -/
def plainCapturesCard : Claim7 := { stood := { row := plainCapturesRow, standIns := [], harness := (true, "fe9c558020622163dbbb5a21d3ffcc679060f86678ffde79db16889fdcbb90c2"), looks := true }, kinds := [], alts := [], laidByText := true, laidKinds := [.handle], laidTests := true, laidLooks := .later }
def PlainCapturesCardSaid : Prop := Claim7.holds Tryz.pinned (.plain (OpenSpec.ofChange plainCapturesSpec)) plainCapturesCard

/-- THE TIED CARD OF 'tidewaylaw17.PlainRuns'. -/
def plainRunsCard : Claim7 := { stood := { row := plainRunsRow, standIns := [], harness := (true, "fe9c558020622163dbbb5a21d3ffcc679060f86678ffde79db16889fdcbb90c2"), looks := true }, kinds := [], alts := [], laidByText := true, laidKinds := [.handle], laidTests := true, laidLooks := .later }
def PlainRunsCardSaid : Prop := Claim7.holds Tryz.pinned (.plain (OpenSpec.ofChange plainRunsSpec)) plainRunsCard

/-- THE TIED CARD OF 'tidewaylaw17.PlainObjects'. -/
def plainObjectsCard : Claim7 := { stood := { row := plainObjectsRow, standIns := [], harness := (true, "fe9c558020622163dbbb5a21d3ffcc679060f86678ffde79db16889fdcbb90c2"), looks := true }, kinds := [], alts := [], laidByText := true, laidKinds := [.handle], laidTests := true, laidLooks := .later }
def PlainObjectsCardSaid : Prop := Claim7.holds Tryz.pinned (.plain (OpenSpec.ofChange plainObjectsSpec)) plainObjectsCard

/-- THE TIED CARD OF 'tidewaylaw17.PlainSteps'. -/
def plainStepsCard : Claim7 := { stood := { row := plainStepsRow, standIns := [], harness := (true, "fe9c558020622163dbbb5a21d3ffcc679060f86678ffde79db16889fdcbb90c2"), looks := true }, kinds := [], alts := [], laidByText := true, laidKinds := [.handle], laidTests := true, laidLooks := .later }
def PlainStepsCardSaid : Prop := Claim7.holds Tryz.pinned (.plain (OpenSpec.ofChange plainStepsSpec)) plainStepsCard

/-- THE TIED CARD OF 'tidewaylaw17.PlainViews'. -/
def plainViewsCard : Claim7 := { stood := { row := plainViewsRow, standIns := [], harness := (true, "fe9c558020622163dbbb5a21d3ffcc679060f86678ffde79db16889fdcbb90c2"), looks := true }, kinds := [], alts := [], laidByText := true, laidKinds := [.data, .data, .data, .handle], laidTests := true, laidLooks := .later }
def PlainViewsCardSaid : Prop := Claim7.holds Tryz.pinned (.plain (OpenSpec.ofChange plainViewsSpec)) plainViewsCard

/-- THE TIED CARD OF 'tidewaylaw17.PlainPieces'. -/
def plainPiecesCard : Claim7 := { stood := { row := plainPiecesRow, standIns := [], harness := (true, "fe9c558020622163dbbb5a21d3ffcc679060f86678ffde79db16889fdcbb90c2"), looks := true }, kinds := [], alts := [], laidByText := true, laidKinds := [.data, .data, .data, .handle], laidTests := true, laidLooks := .later }
def PlainPiecesCardSaid : Prop := Claim7.holds Tryz.pinned (.plain (OpenSpec.ofChange plainPiecesSpec)) plainPiecesCard

/-- THE SECOND FORM's CARD OF 'tidewaylaw17.PlainReckons'. -/
def plainReckonsUptoCard : Claim7 := { stood := { row := plainReckonsUptoRow, standIns := [], harness := (true, "fe9c558020622163dbbb5a21d3ffcc679060f86678ffde79db16889fdcbb90c2"), looks := true }, kinds := [], alts := [], laidByText := true, laidKinds := [.handle], laidTests := true, laidLooks := .later }
def PlainReckonsUptoCardSaid : Prop := Claim7.holds Tryz.pinned (.plain (OpenSpec.upto plainReckonsSpec)) plainReckonsUptoCard

/-- THE SECOND FORM's CARD OF 'tidewaylaw17.PlainInput'. -/
def plainInputUptoCard : Claim7 := { stood := { row := plainInputUptoRow, standIns := [], harness := (true, "fe9c558020622163dbbb5a21d3ffcc679060f86678ffde79db16889fdcbb90c2"), looks := true }, kinds := [], alts := [], laidByText := true, laidKinds := [.handle], laidTests := true, laidLooks := .later }
def PlainInputUptoCardSaid : Prop := Claim7.holds Tryz.pinned (.plain (OpenSpec.upto plainInputSpec)) plainInputUptoCard

/-- THE SECOND FORM's CARD OF 'tidewaylaw17.PlainCaptures'. -/
def plainCapturesUptoCard : Claim7 := { stood := { row := plainCapturesUptoRow, standIns := [], harness := (true, "fe9c558020622163dbbb5a21d3ffcc679060f86678ffde79db16889fdcbb90c2"), looks := true }, kinds := [], alts := [], laidByText := true, laidKinds := [.handle], laidTests := true, laidLooks := .later }
def PlainCapturesUptoCardSaid : Prop := Claim7.holds Tryz.pinned (.plain (OpenSpec.upto plainCapturesSpec)) plainCapturesUptoCard

/-- THE SECOND FORM's CARD OF 'tidewaylaw17.PlainRuns'. -/
def plainRunsUptoCard : Claim7 := { stood := { row := plainRunsUptoRow, standIns := [], harness := (true, "fe9c558020622163dbbb5a21d3ffcc679060f86678ffde79db16889fdcbb90c2"), looks := true }, kinds := [], alts := [], laidByText := true, laidKinds := [.handle], laidTests := true, laidLooks := .later }
def PlainRunsUptoCardSaid : Prop := Claim7.holds Tryz.pinned (.plain (OpenSpec.upto plainRunsSpec)) plainRunsUptoCard

/-- THE SECOND FORM's CARD OF 'tidewaylaw17.PlainObjects'. -/
def plainObjectsUptoCard : Claim7 := { stood := { row := plainObjectsUptoRow, standIns := [], harness := (true, "fe9c558020622163dbbb5a21d3ffcc679060f86678ffde79db16889fdcbb90c2"), looks := true }, kinds := [], alts := [], laidByText := true, laidKinds := [.handle], laidTests := true, laidLooks := .later }
def PlainObjectsUptoCardSaid : Prop := Claim7.holds Tryz.pinned (.plain (OpenSpec.upto plainObjectsSpec)) plainObjectsUptoCard

/-- THE SECOND FORM's CARD OF 'tidewaylaw17.PlainSteps'. -/
def plainStepsUptoCard : Claim7 := { stood := { row := plainStepsUptoRow, standIns := [], harness := (true, "fe9c558020622163dbbb5a21d3ffcc679060f86678ffde79db16889fdcbb90c2"), looks := true }, kinds := [], alts := [], laidByText := true, laidKinds := [.handle], laidTests := true, laidLooks := .later }
def PlainStepsUptoCardSaid : Prop := Claim7.holds Tryz.pinned (.plain (OpenSpec.upto plainStepsSpec)) plainStepsUptoCard

/-- THE SECOND FORM's CARD OF 'tidewaylaw17.PlainViews'. -/
def plainViewsUptoCard : Claim7 := { stood := { row := plainViewsUptoRow, standIns := [], harness := (true, "fe9c558020622163dbbb5a21d3ffcc679060f86678ffde79db16889fdcbb90c2"), looks := true }, kinds := [], alts := [], laidByText := true, laidKinds := [.data, .data, .data, .handle], laidTests := true, laidLooks := .later }
def PlainViewsUptoCardSaid : Prop := Claim7.holds Tryz.pinned (.plain (OpenSpec.upto plainViewsSpec)) plainViewsUptoCard

/-- THE SECOND FORM's CARD OF 'tidewaylaw17.PlainPieces'. -/
def plainPiecesUptoCard : Claim7 := { stood := { row := plainPiecesUptoRow, standIns := [], harness := (true, "fe9c558020622163dbbb5a21d3ffcc679060f86678ffde79db16889fdcbb90c2"), looks := true }, kinds := [], alts := [], laidByText := true, laidKinds := [.data, .data, .data, .handle], laidTests := true, laidLooks := .later }
def PlainPiecesUptoCardSaid : Prop := Claim7.holds Tryz.pinned (.plain (OpenSpec.upto plainPiecesSpec)) plainPiecesUptoCard
end Rows
end Go.Proofs.YtkaladiliikheaaGreatDoor
