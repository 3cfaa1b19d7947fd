/-
  DERIVED. GIVEN WITH THE SEED: THE CARDS: each row of YtdalcnjdpfnjjaaGreatDoorRows.lean that lists a variable, with what it lists TIED to the program's text (the seventh form; the later family's looks); each row that meets fmt, with fmt's text TOLD by the authors' own Lean function (tested against real Go, not proved from fmt's source: count such statements apart). THE CARD IS WHAT COUNTS. Prove the row's statement (the work); the ties are given (YtdalcnjdpfnjjaaGreatDoorTie.lean); close each card by the builder's one call (the guide's Derived/Test/ToyasCard.lean, 'card_holds'). Laid BY PROGRAM, IN A SANDBOX (cutbox-door.mjs). By AI agents, Wed Nov 11 2026. No macro, syntax, notation, axiom, sorry.
-/
import Derived.Test.YtdalcnjdpfnjjaaGreatDoorRows
import GoSem.ClaimSeven
namespace Go.Proofs.YtdalcnjdpfnjjaaGreatDoor
namespace Rows

/-- THE TIED CARD OF 'glowwormlaw16.QueryDeaf'. -/
def queryDeafCard : Claim7 := { stood := { row := queryDeafRow, standIns := [], harness := (true, "d0484a618f130a9e8155cdbb0b206f068611d41de2e1d6f1bde6c095dd801a4b"), looks := true }, kinds := [], alts := [], laidByText := true, laidKinds := [.data, .data, .pinned], laidTests := true, laidLooks := .later }
def QueryDeafCardSaid : Prop := Claim7.holds Tryz.pinned (.plain (OpenSpec.ofChange queryDeafSpec)) queryDeafCard

/-- THE TIED CARD OF 'glowwormlaw16.ReplyAnew'. -/
def replyAnewCard : Claim7 := { stood := { row := replyAnewRow, standIns := [], harness := (true, "d0484a618f130a9e8155cdbb0b206f068611d41de2e1d6f1bde6c095dd801a4b"), looks := true }, kinds := [], alts := [], laidByText := true, laidKinds := [.data, .data, .pinned], laidTests := true, laidLooks := .later }
def ReplyAnewCardSaid : Prop := Claim7.holds Tryz.pinned (.plain (OpenSpec.ofChange replyAnewSpec)) replyAnewCard

/-- THE TIED CARD OF 'glowwormlaw16.QueryOwn'. -/
def queryOwnCard : Claim7 := { stood := { row := queryOwnRow, standIns := [], harness := (true, "d0484a618f130a9e8155cdbb0b206f068611d41de2e1d6f1bde6c095dd801a4b"), looks := true }, kinds := [], alts := [], laidByText := true, laidKinds := [.data, .data, .pinned], laidTests := true, laidLooks := .later }
def QueryOwnCardSaid : Prop := Claim7.holds Tryz.pinned (.plain (OpenSpec.ofChange queryOwnSpec)) queryOwnCard

/-- THE TIED CARD OF 'glowwormlaw16.QueryAll'. -/
def queryAllCard : Claim7 := { stood := { row := queryAllRow, standIns := [], harness := (true, "d0484a618f130a9e8155cdbb0b206f068611d41de2e1d6f1bde6c095dd801a4b"), looks := true }, kinds := [], alts := [], laidByText := true, laidKinds := [.data, .data, .pinned], laidTests := true, laidLooks := .later }
def QueryAllCardSaid : Prop := Claim7.holds Tryz.pinned (.plain (OpenSpec.ofChange queryAllSpec)) queryAllCard

/-- THE TIED CARD OF 'glowwormlaw16.LogOrder'. -/
def logOrderCard : Claim7 := { stood := { row := logOrderRow, standIns := [], harness := (true, "d0484a618f130a9e8155cdbb0b206f068611d41de2e1d6f1bde6c095dd801a4b"), looks := true }, kinds := [], alts := [], laidByText := true, laidKinds := [.data, .data, .pinned], laidTests := true, laidLooks := .later }
def LogOrderCardSaid : Prop := Claim7.holds Tryz.pinned (.plain (OpenSpec.ofChange logOrderSpec)) logOrderCard

/-- THE SECOND FORM's CARD OF 'glowwormlaw16.QueryDeaf'. -/
def queryDeafUptoCard : Claim7 := { stood := { row := queryDeafUptoRow, standIns := [], harness := (true, "d0484a618f130a9e8155cdbb0b206f068611d41de2e1d6f1bde6c095dd801a4b"), looks := true }, kinds := [], alts := [], laidByText := true, laidKinds := [.data, .data, .pinned], laidTests := true, laidLooks := .later }
def QueryDeafUptoCardSaid : Prop := Claim7.holds Tryz.pinned (.plain (OpenSpec.upto queryDeafSpec)) queryDeafUptoCard

/-- THE SECOND FORM's CARD OF 'glowwormlaw16.ReplyAnew'. -/
def replyAnewUptoCard : Claim7 := { stood := { row := replyAnewUptoRow, standIns := [], harness := (true, "d0484a618f130a9e8155cdbb0b206f068611d41de2e1d6f1bde6c095dd801a4b"), looks := true }, kinds := [], alts := [], laidByText := true, laidKinds := [.data, .data, .pinned], laidTests := true, laidLooks := .later }
def ReplyAnewUptoCardSaid : Prop := Claim7.holds Tryz.pinned (.plain (OpenSpec.upto replyAnewSpec)) replyAnewUptoCard

/-- THE SECOND FORM's CARD OF 'glowwormlaw16.QueryOwn'. -/
def queryOwnUptoCard : Claim7 := { stood := { row := queryOwnUptoRow, standIns := [], harness := (true, "d0484a618f130a9e8155cdbb0b206f068611d41de2e1d6f1bde6c095dd801a4b"), looks := true }, kinds := [], alts := [], laidByText := true, laidKinds := [.data, .data, .pinned], laidTests := true, laidLooks := .later }
def QueryOwnUptoCardSaid : Prop := Claim7.holds Tryz.pinned (.plain (OpenSpec.upto queryOwnSpec)) queryOwnUptoCard

/-- THE SECOND FORM's CARD OF 'glowwormlaw16.QueryAll'. -/
def queryAllUptoCard : Claim7 := { stood := { row := queryAllUptoRow, standIns := [], harness := (true, "d0484a618f130a9e8155cdbb0b206f068611d41de2e1d6f1bde6c095dd801a4b"), looks := true }, kinds := [], alts := [], laidByText := true, laidKinds := [.data, .data, .pinned], laidTests := true, laidLooks := .later }
def QueryAllUptoCardSaid : Prop := Claim7.holds Tryz.pinned (.plain (OpenSpec.upto queryAllSpec)) queryAllUptoCard

/-- THE SECOND FORM's CARD OF 'glowwormlaw16.LogOrder'. -/
def logOrderUptoCard : Claim7 := { stood := { row := logOrderUptoRow, standIns := [], harness := (true, "d0484a618f130a9e8155cdbb0b206f068611d41de2e1d6f1bde6c095dd801a4b"), looks := true }, kinds := [], alts := [], laidByText := true, laidKinds := [.data, .data, .pinned], laidTests := true, laidLooks := .later }
def LogOrderUptoCardSaid : Prop := Claim7.holds Tryz.pinned (.plain (OpenSpec.upto logOrderSpec)) logOrderUptoCard
end Rows
end Go.Proofs.YtdalcnjdpfnjjaaGreatDoor
