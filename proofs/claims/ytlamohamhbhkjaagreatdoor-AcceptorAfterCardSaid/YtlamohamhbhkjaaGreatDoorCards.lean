/-
  DERIVED. GIVEN WITH THE SEED: THE CARDS: each row of YtlamohamhbhkjaaGreatDoorRows.lean that lists a variable, with what it lists TIED to the program's text (the seventh form; the later family's looks); each row that meets fmt, with fmt's text TOLD by the authors' own Lean function (tested against real Go, not proved from fmt's source: count such statements apart). THE CARD IS WHAT COUNTS. Prove the row's statement (the work); the ties are given (YtlamohamhbhkjaaGreatDoorTie.lean); close each card by the builder's one call (the guide's Derived/Test/ToyasCard.lean, 'card_holds'). Laid BY PROGRAM, IN A SANDBOX (cutbox-door.mjs). By AI agents, Wed Nov 11 2026. No macro, syntax, notation, axiom, sorry.
-/
import Derived.Test.YtlamohamhbhkjaaGreatDoorRows
import GoSem.ClaimSeven
namespace Go.Proofs.YtlamohamhbhkjaaGreatDoor
namespace Rows

/-- THE TIED CARD OF 'legatelaw14.AcceptorAfter'. -/
def acceptorAfterCard : Claim7 := { stood := { row := acceptorAfterRow, standIns := [], harness := (true, "980b965695d49a806731296ddb19772277c484c8c67e6a1d9538a39d50e050a5"), looks := false }, kinds := [], alts := [], laidByText := true, laidKinds := [.data, .pinned], laidTests := true, laidLooks := .later }
def AcceptorAfterCardSaid : Prop := Claim7.holds Tryz.pinned (.plain (OpenSpec.ofChange acceptorAfterSpec)) acceptorAfterCard

/-- THE TIED CARD OF 'legatelaw14.AcceptorPlays'. -/
def acceptorPlaysCard : Claim7 := { stood := { row := acceptorPlaysRow, standIns := [], harness := (true, "980b965695d49a806731296ddb19772277c484c8c67e6a1d9538a39d50e050a5"), looks := false }, kinds := [], alts := [], laidByText := true, laidKinds := [.data, .pinned], laidTests := true, laidLooks := .later }
def AcceptorPlaysCardSaid : Prop := Claim7.holds Tryz.pinned (.plain (OpenSpec.ofChange acceptorPlaysSpec)) acceptorPlaysCard

/-- THE TIED CARD OF 'legatelaw14.AcceptorOnce'. -/
def acceptorOnceCard : Claim7 := { stood := { row := acceptorOnceRow, standIns := [], harness := (true, "980b965695d49a806731296ddb19772277c484c8c67e6a1d9538a39d50e050a5"), looks := false }, kinds := [], alts := [], laidByText := true, laidKinds := [.data, .pinned], laidTests := true, laidLooks := .later }
def AcceptorOnceCardSaid : Prop := Claim7.holds Tryz.pinned (.plain (OpenSpec.ofChange acceptorOnceSpec)) acceptorOnceCard

/-- THE TIED CARD OF 'legatelaw14.AcceptorOthers'. -/
def acceptorOthersCard : Claim7 := { stood := { row := acceptorOthersRow, standIns := [], harness := (true, "980b965695d49a806731296ddb19772277c484c8c67e6a1d9538a39d50e050a5"), looks := false }, kinds := [], alts := [], laidByText := true, laidKinds := [.data, .pinned], laidTests := true, laidLooks := .later }
def AcceptorOthersCardSaid : Prop := Claim7.holds Tryz.pinned (.plain (OpenSpec.ofChange acceptorOthersSpec)) acceptorOthersCard

/-- THE SECOND FORM's CARD OF 'legatelaw14.AcceptorAfter'. -/
def acceptorAfterUptoCard : Claim7 := { stood := { row := acceptorAfterUptoRow, standIns := [], harness := (true, "980b965695d49a806731296ddb19772277c484c8c67e6a1d9538a39d50e050a5"), looks := false }, kinds := [], alts := [], laidByText := true, laidKinds := [.data, .pinned], laidTests := true, laidLooks := .later }
def AcceptorAfterUptoCardSaid : Prop := Claim7.holds Tryz.pinned (.plain (OpenSpec.upto acceptorAfterSpec)) acceptorAfterUptoCard

/-- THE SECOND FORM's CARD OF 'legatelaw14.AcceptorPlays'. -/
def acceptorPlaysUptoCard : Claim7 := { stood := { row := acceptorPlaysUptoRow, standIns := [], harness := (true, "980b965695d49a806731296ddb19772277c484c8c67e6a1d9538a39d50e050a5"), looks := false }, kinds := [], alts := [], laidByText := true, laidKinds := [.data, .pinned], laidTests := true, laidLooks := .later }
def AcceptorPlaysUptoCardSaid : Prop := Claim7.holds Tryz.pinned (.plain (OpenSpec.upto acceptorPlaysSpec)) acceptorPlaysUptoCard

/-- THE SECOND FORM's CARD OF 'legatelaw14.AcceptorOnce'. -/
def acceptorOnceUptoCard : Claim7 := { stood := { row := acceptorOnceUptoRow, standIns := [], harness := (true, "980b965695d49a806731296ddb19772277c484c8c67e6a1d9538a39d50e050a5"), looks := false }, kinds := [], alts := [], laidByText := true, laidKinds := [.data, .pinned], laidTests := true, laidLooks := .later }
def AcceptorOnceUptoCardSaid : Prop := Claim7.holds Tryz.pinned (.plain (OpenSpec.upto acceptorOnceSpec)) acceptorOnceUptoCard

/-- THE SECOND FORM's CARD OF 'legatelaw14.AcceptorOthers'. -/
def acceptorOthersUptoCard : Claim7 := { stood := { row := acceptorOthersUptoRow, standIns := [], harness := (true, "980b965695d49a806731296ddb19772277c484c8c67e6a1d9538a39d50e050a5"), looks := false }, kinds := [], alts := [], laidByText := true, laidKinds := [.data, .pinned], laidTests := true, laidLooks := .later }
def AcceptorOthersUptoCardSaid : Prop := Claim7.holds Tryz.pinned (.plain (OpenSpec.upto acceptorOthersSpec)) acceptorOthersUptoCard
end Rows
end Go.Proofs.YtlamohamhbhkjaaGreatDoor
