/-
  DERIVED. GIVEN WITH THE SEED: THE CARDS: each row of YtdeocbficanfaaaGreatDoorRows.lean that lists a variable, with what it lists TIED to the program's text (the seventh form; the later family's looks); each row that meets fmt, with fmt's text TOLD by the authors' own Lean function (tested against real Go, not proved from fmt's source: count such statements apart). THE CARD IS WHAT COUNTS. Prove the row's statement (the work); the ties are given (YtdeocbficanfaaaGreatDoorTie.lean); close each card by the builder's one call (the guide's Derived/Test/ToyasCard.lean, 'card_holds'). Laid BY PROGRAM, IN A SANDBOX (cutbox-door.mjs). By AI agents, Wed Nov 11 2026. No macro, syntax, notation, axiom, sorry.
-/
import Derived.Test.YtdeocbficanfaaaGreatDoorRows
import GoSem.ClaimSeven
namespace Go.Proofs.YtdeocbficanfaaaGreatDoor
namespace Rows

/-- THE TIED CARD OF 'marquetrylaw27.BindsLinks'. -/
def bindsLinksCard : Claim7 := { stood := { row := bindsLinksRow, standIns := [], harness := (true, "d92abaa7c116f18cdaf1a40e3929c3b801ec1cf28130e89c817dc7e627cc9f6d"), looks := false }, kinds := [], alts := [], laidByText := true, laidKinds := [.data, .pinned], laidTests := true, laidLooks := .later }
def BindsLinksCardSaid : Prop := Claim7.holds Tryz.pinned (.plain (OpenSpec.ofChange bindsLinksSpec)) bindsLinksCard

/-- THE TIED CARD OF 'marquetrylaw27.BindsSites'. -/
def bindsSitesCard : Claim7 := { stood := { row := bindsSitesRow, standIns := [], harness := (true, "d92abaa7c116f18cdaf1a40e3929c3b801ec1cf28130e89c817dc7e627cc9f6d"), looks := false }, kinds := [], alts := [], laidByText := true, laidKinds := [.data, .pinned], laidTests := true, laidLooks := .later }
def BindsSitesCardSaid : Prop := Claim7.holds Tryz.pinned (.plain (OpenSpec.ofChange bindsSitesSpec)) bindsSitesCard

/-- THE TIED CARD OF 'marquetrylaw27.BindsSelf'. -/
def bindsSelfCard : Claim7 := { stood := { row := bindsSelfRow, standIns := [], harness := (true, "d92abaa7c116f18cdaf1a40e3929c3b801ec1cf28130e89c817dc7e627cc9f6d"), looks := false }, kinds := [], alts := [], laidByText := true, laidKinds := [.data, .pinned], laidTests := true, laidLooks := .later }
def BindsSelfCardSaid : Prop := Claim7.holds Tryz.pinned (.plain (OpenSpec.ofChange bindsSelfSpec)) bindsSelfCard

/-- THE SECOND FORM's CARD OF 'marquetrylaw27.BindsLinks'. -/
def bindsLinksUptoCard : Claim7 := { stood := { row := bindsLinksUptoRow, standIns := [], harness := (true, "d92abaa7c116f18cdaf1a40e3929c3b801ec1cf28130e89c817dc7e627cc9f6d"), looks := false }, kinds := [], alts := [], laidByText := true, laidKinds := [.data, .pinned], laidTests := true, laidLooks := .later }
def BindsLinksUptoCardSaid : Prop := Claim7.holds Tryz.pinned (.plain (OpenSpec.upto bindsLinksSpec)) bindsLinksUptoCard

/-- THE SECOND FORM's CARD OF 'marquetrylaw27.BindsSites'. -/
def bindsSitesUptoCard : Claim7 := { stood := { row := bindsSitesUptoRow, standIns := [], harness := (true, "d92abaa7c116f18cdaf1a40e3929c3b801ec1cf28130e89c817dc7e627cc9f6d"), looks := false }, kinds := [], alts := [], laidByText := true, laidKinds := [.data, .pinned], laidTests := true, laidLooks := .later }
def BindsSitesUptoCardSaid : Prop := Claim7.holds Tryz.pinned (.plain (OpenSpec.upto bindsSitesSpec)) bindsSitesUptoCard

/-- THE SECOND FORM's CARD OF 'marquetrylaw27.BindsSelf'. -/
def bindsSelfUptoCard : Claim7 := { stood := { row := bindsSelfUptoRow, standIns := [], harness := (true, "d92abaa7c116f18cdaf1a40e3929c3b801ec1cf28130e89c817dc7e627cc9f6d"), looks := false }, kinds := [], alts := [], laidByText := true, laidKinds := [.data, .pinned], laidTests := true, laidLooks := .later }
def BindsSelfUptoCardSaid : Prop := Claim7.holds Tryz.pinned (.plain (OpenSpec.upto bindsSelfSpec)) bindsSelfUptoCard
end Rows
end Go.Proofs.YtdeocbficanfaaaGreatDoor
