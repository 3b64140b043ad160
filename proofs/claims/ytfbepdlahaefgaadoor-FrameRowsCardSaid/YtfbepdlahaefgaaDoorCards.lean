/-
  DERIVED. GIVEN WITH THE SEED: THE CARDS: each row of YtfbepdlahaefgaaDoorRows.lean that lists a variable, with what it lists TIED to the program's text (the seventh form; the later family's looks); each row that meets fmt, with fmt's text TOLD by the authors' own Lean function (tested against real Go, not proved from fmt's source: count such statements apart). THE CARD IS WHAT COUNTS. Prove the row's statement (the work); the ties are given (YtfbepdlahaefgaaDoorTie.lean); close each card by the builder's one call (the guide's Derived/Test/ToyasCard.lean, 'card_holds'). Laid BY PROGRAM, IN A SANDBOX (cutbox-door.mjs). By AI agents, Wed Nov 11 2026. No macro, syntax, notation, axiom, sorry.
-/
import Derived.Test.YtfbepdlahaefgaaDoorRows
import GoSem.ClaimSeven
namespace Go.Proofs.YtfbepdlahaefgaaDoor
namespace Rows

/-- THE TIED CARD OF 'regattalaw11.CrcOf'. -/
def crcOfCard : Claim7 := { stood := { row := crcOfRow, standIns := [], harness := (true, "4296d7ccfb51a1b46dc4a57fee7c61c68368be700fbce60a56433c857077b7ce"), looks := false }, kinds := [], alts := [], laidByText := true, laidKinds := [.data, .data], laidTests := true, laidLooks := .later }
def CrcOfCardSaid : Prop := Claim7.holds Tryd.pinned (.plain (OpenSpec.ofChange crcOfSpec)) crcOfCard

/-- THE TIED CARD OF 'regattalaw11.CrcMore'. -/
def crcMoreCard : Claim7 := { stood := { row := crcMoreRow, standIns := [], harness := (true, "4296d7ccfb51a1b46dc4a57fee7c61c68368be700fbce60a56433c857077b7ce"), looks := false }, kinds := [], alts := [], laidByText := true, laidKinds := [.data], laidTests := true, laidLooks := .later }
def CrcMoreCardSaid : Prop := Claim7.holds Tryd.pinned (.plain (OpenSpec.ofChange crcMoreSpec)) crcMoreCard

/-- THE TIED CARD OF 'regattalaw11.CrcJoin'. -/
def crcJoinCard : Claim7 := { stood := { row := crcJoinRow, standIns := [], harness := (true, "4296d7ccfb51a1b46dc4a57fee7c61c68368be700fbce60a56433c857077b7ce"), looks := false }, kinds := [], alts := [], laidByText := true, laidKinds := [.data, .data], laidTests := true, laidLooks := .later }
def CrcJoinCardSaid : Prop := Claim7.holds Tryd.pinned (.plain (OpenSpec.ofChange crcJoinSpec)) crcJoinCard

/-- THE TIED CARD OF 'regattalaw11.CrcTwo'. -/
def crcTwoCard : Claim7 := { stood := { row := crcTwoRow, standIns := [], harness := (true, "4296d7ccfb51a1b46dc4a57fee7c61c68368be700fbce60a56433c857077b7ce"), looks := false }, kinds := [], alts := [], laidByText := true, laidKinds := [.data], laidTests := true, laidLooks := .later }
def CrcTwoCardSaid : Prop := Claim7.holds Tryd.pinned (.plain (OpenSpec.ofChange crcTwoSpec)) crcTwoCard

/-- THE TIED CARD OF 'regattalaw11.CrcBursts'. -/
def crcBurstsCard : Claim7 := { stood := { row := crcBurstsRow, standIns := [], harness := (true, "4296d7ccfb51a1b46dc4a57fee7c61c68368be700fbce60a56433c857077b7ce"), looks := false }, kinds := [], alts := [], laidByText := true, laidKinds := [.data], laidTests := true, laidLooks := .later }
def CrcBurstsCardSaid : Prop := Claim7.holds Tryd.pinned (.plain (OpenSpec.ofChange crcBurstsSpec)) crcBurstsCard

/-- THE TIED CARD OF 'regattalaw11.CrcLaid'. -/
def crcLaidCard : Claim7 := { stood := { row := crcLaidRow, standIns := [], harness := (true, "4296d7ccfb51a1b46dc4a57fee7c61c68368be700fbce60a56433c857077b7ce"), looks := false }, kinds := [], alts := [], laidByText := true, laidKinds := [.data], laidTests := true, laidLooks := .later }
def CrcLaidCardSaid : Prop := Claim7.holds Tryd.pinned (.plain (OpenSpec.ofChange crcLaidSpec)) crcLaidCard

/-- THE TIED CARD OF 'regattalaw13.FrameSeals'. -/
def frameSealsCard : Claim7 := { stood := { row := frameSealsRow, standIns := [], harness := (true, "4296d7ccfb51a1b46dc4a57fee7c61c68368be700fbce60a56433c857077b7ce"), looks := false }, kinds := [], alts := [], laidByText := true, laidKinds := [.data], laidTests := true, laidLooks := .later }
def FrameSealsCardSaid : Prop := Claim7.holds Tryd.pinned (.plain (OpenSpec.ofChange frameSealsSpec)) frameSealsCard

/-- THE TIED CARD OF 'regattalaw13.FrameOpens'. -/
def frameOpensCard : Claim7 := { stood := { row := frameOpensRow, standIns := [], harness := (true, "4296d7ccfb51a1b46dc4a57fee7c61c68368be700fbce60a56433c857077b7ce"), looks := false }, kinds := [], alts := [], laidByText := true, laidKinds := [.data], laidTests := true, laidLooks := .later }
def FrameOpensCardSaid : Prop := Claim7.holds Tryd.pinned (.plain (OpenSpec.ofChange frameOpensSpec)) frameOpensCard

/-- THE TIED CARD OF 'regattalaw13.FrameLimits'. -/
def frameLimitsCard : Claim7 := { stood := { row := frameLimitsRow, standIns := [], harness := (true, "4296d7ccfb51a1b46dc4a57fee7c61c68368be700fbce60a56433c857077b7ce"), looks := false }, kinds := [], alts := [], laidByText := true, laidKinds := [.data], laidTests := true, laidLooks := .later }
def FrameLimitsCardSaid : Prop := Claim7.holds Tryd.pinned (.plain (OpenSpec.ofChange frameLimitsSpec)) frameLimitsCard

/-- THE TIED CARD OF 'regattalaw13.FrameBack'. -/
def frameBackCard : Claim7 := { stood := { row := frameBackRow, standIns := [], harness := (true, "4296d7ccfb51a1b46dc4a57fee7c61c68368be700fbce60a56433c857077b7ce"), looks := false }, kinds := [], alts := [], laidByText := true, laidKinds := [.data], laidTests := true, laidLooks := .later }
def FrameBackCardSaid : Prop := Claim7.holds Tryd.pinned (.plain (OpenSpec.ofChange frameBackSpec)) frameBackCard

/-- THE TIED CARD OF 'regattalaw13.FrameFlips'. -/
def frameFlipsCard : Claim7 := { stood := { row := frameFlipsRow, standIns := [], harness := (true, "4296d7ccfb51a1b46dc4a57fee7c61c68368be700fbce60a56433c857077b7ce"), looks := false }, kinds := [], alts := [], laidByText := true, laidKinds := [.data], laidTests := true, laidLooks := .later }
def FrameFlipsCardSaid : Prop := Claim7.holds Tryd.pinned (.plain (OpenSpec.ofChange frameFlipsSpec)) frameFlipsCard

/-- THE TIED CARD OF 'regattalaw13.FrameHunts'. -/
def frameHuntsCard : Claim7 := { stood := { row := frameHuntsRow, standIns := [], harness := (true, "4296d7ccfb51a1b46dc4a57fee7c61c68368be700fbce60a56433c857077b7ce"), looks := false }, kinds := [], alts := [], laidByText := true, laidKinds := [.data], laidTests := true, laidLooks := .later }
def FrameHuntsCardSaid : Prop := Claim7.holds Tryd.pinned (.plain (OpenSpec.ofChange frameHuntsSpec)) frameHuntsCard

/-- THE TIED CARD OF 'regattalaw13.FrameSplits'. -/
def frameSplitsCard : Claim7 := { stood := { row := frameSplitsRow, standIns := [], harness := (true, "4296d7ccfb51a1b46dc4a57fee7c61c68368be700fbce60a56433c857077b7ce"), looks := false }, kinds := [], alts := [], laidByText := true, laidKinds := [.data], laidTests := true, laidLooks := .later }
def FrameSplitsCardSaid : Prop := Claim7.holds Tryd.pinned (.plain (OpenSpec.ofChange frameSplitsSpec)) frameSplitsCard

/-- THE TIED CARD OF 'regattalaw13.FrameRows'. -/
def frameRowsCard : Claim7 := { stood := { row := frameRowsRow, standIns := [], harness := (true, "4296d7ccfb51a1b46dc4a57fee7c61c68368be700fbce60a56433c857077b7ce"), looks := false }, kinds := [], alts := [], laidByText := true, laidKinds := [.data], laidTests := true, laidLooks := .later }
def FrameRowsCardSaid : Prop := Claim7.holds Tryd.pinned (.plain (OpenSpec.ofChange frameRowsSpec)) frameRowsCard

/-- THE SECOND FORM's CARD OF 'regattalaw11.CrcOf'. -/
def crcOfUptoCard : Claim7 := { stood := { row := crcOfUptoRow, standIns := [], harness := (true, "4296d7ccfb51a1b46dc4a57fee7c61c68368be700fbce60a56433c857077b7ce"), looks := false }, kinds := [], alts := [], laidByText := true, laidKinds := [.data, .data], laidTests := true, laidLooks := .later }
def CrcOfUptoCardSaid : Prop := Claim7.holds Tryd.pinned (.plain (OpenSpec.upto crcOfSpec)) crcOfUptoCard

/-- THE SECOND FORM's CARD OF 'regattalaw11.CrcMore'. -/
def crcMoreUptoCard : Claim7 := { stood := { row := crcMoreUptoRow, standIns := [], harness := (true, "4296d7ccfb51a1b46dc4a57fee7c61c68368be700fbce60a56433c857077b7ce"), looks := false }, kinds := [], alts := [], laidByText := true, laidKinds := [.data], laidTests := true, laidLooks := .later }
def CrcMoreUptoCardSaid : Prop := Claim7.holds Tryd.pinned (.plain (OpenSpec.upto crcMoreSpec)) crcMoreUptoCard

/-- THE SECOND FORM's CARD OF 'regattalaw11.CrcJoin'. -/
def crcJoinUptoCard : Claim7 := { stood := { row := crcJoinUptoRow, standIns := [], harness := (true, "4296d7ccfb51a1b46dc4a57fee7c61c68368be700fbce60a56433c857077b7ce"), looks := false }, kinds := [], alts := [], laidByText := true, laidKinds := [.data, .data], laidTests := true, laidLooks := .later }
def CrcJoinUptoCardSaid : Prop := Claim7.holds Tryd.pinned (.plain (OpenSpec.upto crcJoinSpec)) crcJoinUptoCard

/-- THE SECOND FORM's CARD OF 'regattalaw11.CrcTwo'. -/
def crcTwoUptoCard : Claim7 := { stood := { row := crcTwoUptoRow, standIns := [], harness := (true, "4296d7ccfb51a1b46dc4a57fee7c61c68368be700fbce60a56433c857077b7ce"), looks := false }, kinds := [], alts := [], laidByText := true, laidKinds := [.data], laidTests := true, laidLooks := .later }
def CrcTwoUptoCardSaid : Prop := Claim7.holds Tryd.pinned (.plain (OpenSpec.upto crcTwoSpec)) crcTwoUptoCard

/-- THE SECOND FORM's CARD OF 'regattalaw11.CrcBursts'. -/
def crcBurstsUptoCard : Claim7 := { stood := { row := crcBurstsUptoRow, standIns := [], harness := (true, "4296d7ccfb51a1b46dc4a57fee7c61c68368be700fbce60a56433c857077b7ce"), looks := false }, kinds := [], alts := [], laidByText := true, laidKinds := [.data], laidTests := true, laidLooks := .later }
def CrcBurstsUptoCardSaid : Prop := Claim7.holds Tryd.pinned (.plain (OpenSpec.upto crcBurstsSpec)) crcBurstsUptoCard

/-- THE SECOND FORM's CARD OF 'regattalaw11.CrcLaid'. -/
def crcLaidUptoCard : Claim7 := { stood := { row := crcLaidUptoRow, standIns := [], harness := (true, "4296d7ccfb51a1b46dc4a57fee7c61c68368be700fbce60a56433c857077b7ce"), looks := false }, kinds := [], alts := [], laidByText := true, laidKinds := [.data], laidTests := true, laidLooks := .later }
def CrcLaidUptoCardSaid : Prop := Claim7.holds Tryd.pinned (.plain (OpenSpec.upto crcLaidSpec)) crcLaidUptoCard

/-- THE SECOND FORM's CARD OF 'regattalaw13.FrameSeals'. -/
def frameSealsUptoCard : Claim7 := { stood := { row := frameSealsUptoRow, standIns := [], harness := (true, "4296d7ccfb51a1b46dc4a57fee7c61c68368be700fbce60a56433c857077b7ce"), looks := false }, kinds := [], alts := [], laidByText := true, laidKinds := [.data], laidTests := true, laidLooks := .later }
def FrameSealsUptoCardSaid : Prop := Claim7.holds Tryd.pinned (.plain (OpenSpec.upto frameSealsSpec)) frameSealsUptoCard

/-- THE SECOND FORM's CARD OF 'regattalaw13.FrameOpens'. -/
def frameOpensUptoCard : Claim7 := { stood := { row := frameOpensUptoRow, standIns := [], harness := (true, "4296d7ccfb51a1b46dc4a57fee7c61c68368be700fbce60a56433c857077b7ce"), looks := false }, kinds := [], alts := [], laidByText := true, laidKinds := [.data], laidTests := true, laidLooks := .later }
def FrameOpensUptoCardSaid : Prop := Claim7.holds Tryd.pinned (.plain (OpenSpec.upto frameOpensSpec)) frameOpensUptoCard

/-- THE SECOND FORM's CARD OF 'regattalaw13.FrameLimits'. -/
def frameLimitsUptoCard : Claim7 := { stood := { row := frameLimitsUptoRow, standIns := [], harness := (true, "4296d7ccfb51a1b46dc4a57fee7c61c68368be700fbce60a56433c857077b7ce"), looks := false }, kinds := [], alts := [], laidByText := true, laidKinds := [.data], laidTests := true, laidLooks := .later }
def FrameLimitsUptoCardSaid : Prop := Claim7.holds Tryd.pinned (.plain (OpenSpec.upto frameLimitsSpec)) frameLimitsUptoCard

/-- THE SECOND FORM's CARD OF 'regattalaw13.FrameBack'. -/
def frameBackUptoCard : Claim7 := { stood := { row := frameBackUptoRow, standIns := [], harness := (true, "4296d7ccfb51a1b46dc4a57fee7c61c68368be700fbce60a56433c857077b7ce"), looks := false }, kinds := [], alts := [], laidByText := true, laidKinds := [.data], laidTests := true, laidLooks := .later }
def FrameBackUptoCardSaid : Prop := Claim7.holds Tryd.pinned (.plain (OpenSpec.upto frameBackSpec)) frameBackUptoCard

/-- THE SECOND FORM's CARD OF 'regattalaw13.FrameFlips'. -/
def frameFlipsUptoCard : Claim7 := { stood := { row := frameFlipsUptoRow, standIns := [], harness := (true, "4296d7ccfb51a1b46dc4a57fee7c61c68368be700fbce60a56433c857077b7ce"), looks := false }, kinds := [], alts := [], laidByText := true, laidKinds := [.data], laidTests := true, laidLooks := .later }
def FrameFlipsUptoCardSaid : Prop := Claim7.holds Tryd.pinned (.plain (OpenSpec.upto frameFlipsSpec)) frameFlipsUptoCard

/-- THE SECOND FORM's CARD OF 'regattalaw13.FrameHunts'. -/
def frameHuntsUptoCard : Claim7 := { stood := { row := frameHuntsUptoRow, standIns := [], harness := (true, "4296d7ccfb51a1b46dc4a57fee7c61c68368be700fbce60a56433c857077b7ce"), looks := false }, kinds := [], alts := [], laidByText := true, laidKinds := [.data], laidTests := true, laidLooks := .later }
def FrameHuntsUptoCardSaid : Prop := Claim7.holds Tryd.pinned (.plain (OpenSpec.upto frameHuntsSpec)) frameHuntsUptoCard

/-- THE SECOND FORM's CARD OF 'regattalaw13.FrameSplits'. -/
def frameSplitsUptoCard : Claim7 := { stood := { row := frameSplitsUptoRow, standIns := [], harness := (true, "4296d7ccfb51a1b46dc4a57fee7c61c68368be700fbce60a56433c857077b7ce"), looks := false }, kinds := [], alts := [], laidByText := true, laidKinds := [.data], laidTests := true, laidLooks := .later }
def FrameSplitsUptoCardSaid : Prop := Claim7.holds Tryd.pinned (.plain (OpenSpec.upto frameSplitsSpec)) frameSplitsUptoCard

/-- THE SECOND FORM's CARD OF 'regattalaw13.FrameRows'. -/
def frameRowsUptoCard : Claim7 := { stood := { row := frameRowsUptoRow, standIns := [], harness := (true, "4296d7ccfb51a1b46dc4a57fee7c61c68368be700fbce60a56433c857077b7ce"), looks := false }, kinds := [], alts := [], laidByText := true, laidKinds := [.data], laidTests := true, laidLooks := .later }
def FrameRowsUptoCardSaid : Prop := Claim7.holds Tryd.pinned (.plain (OpenSpec.upto frameRowsSpec)) frameRowsUptoCard
end Rows
end Go.Proofs.YtfbepdlahaefgaaDoor
