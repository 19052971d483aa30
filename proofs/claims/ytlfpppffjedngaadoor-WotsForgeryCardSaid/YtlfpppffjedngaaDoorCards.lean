/-
  DERIVED. GIVEN WITH THE SEED: THE CARDS: each row of YtlfpppffjedngaaDoorRows.lean that lists a variable, with what it lists TIED to the program's text (the seventh form; the later family's looks); each row that meets fmt, with fmt's text TOLD by the authors' own Lean function (tested against real Go, not proved from fmt's source: count such statements apart). THE CARD IS WHAT COUNTS. Prove the row's statement (the work); the ties are given (YtlfpppffjedngaaDoorTie.lean); close each card by the builder's one call (the guide's Derived/Test/ToyasCard.lean, 'card_holds'). Laid BY PROGRAM, IN A SANDBOX (cutbox-door.mjs). By AI agents, Wed Nov 11 2026. No macro, syntax, notation, axiom, sorry.
-/
import Derived.Test.YtlfpppffjedngaaDoorRows
import GoSem.ClaimSeven
namespace Go.Proofs.YtlfpppffjedngaaDoor
namespace Rows

/-- THE TIED CARD OF 'stelelaw29.WotsKeys'. -/
def wotsKeysCard : Claim7 := { stood := { row := wotsKeysRow, standIns := [], harness := (true, "7e195dc577992c191a1fedaa496985ee3bb040edb63cd3bcaf20d6ccd175963f"), looks := false }, kinds := [], alts := [], laidByText := true, laidKinds := [.data, .data, .data], laidTests := true, laidLooks := .later }
def WotsKeysCardSaid : Prop := Claim7.holds Tryd.pinned (.plain (OpenSpec.ofChange wotsKeysSpec)) wotsKeysCard

/-- THE TIED CARD OF 'stelelaw29.WotsRecovers'. -/
def wotsRecoversCard : Claim7 := { stood := { row := wotsRecoversRow, standIns := [], harness := (true, "7e195dc577992c191a1fedaa496985ee3bb040edb63cd3bcaf20d6ccd175963f"), looks := false }, kinds := [], alts := [], laidByText := true, laidKinds := [.data, .data, .data], laidTests := true, laidLooks := .later }
def WotsRecoversCardSaid : Prop := Claim7.holds Tryd.pinned (.plain (OpenSpec.ofChange wotsRecoversSpec)) wotsRecoversCard

/-- THE TIED CARD OF 'stelelaw29.WotsRoundTrip'. -/
def wotsRoundTripCard : Claim7 := { stood := { row := wotsRoundTripRow, standIns := [], harness := (true, "7e195dc577992c191a1fedaa496985ee3bb040edb63cd3bcaf20d6ccd175963f"), looks := false }, kinds := [], alts := [], laidByText := true, laidKinds := [.data, .data, .data], laidTests := true, laidLooks := .later }
def WotsRoundTripCardSaid : Prop := Claim7.holds Tryd.pinned (.plain (OpenSpec.ofChange wotsRoundTripSpec)) wotsRoundTripCard

/-- THE TIED CARD OF 'stelelaw29.WotsChecksum'. -/
def wotsChecksumCard : Claim7 := { stood := { row := wotsChecksumRow, standIns := [], harness := (true, "7e195dc577992c191a1fedaa496985ee3bb040edb63cd3bcaf20d6ccd175963f"), looks := false }, kinds := [], alts := [], laidByText := true, laidKinds := [.data, .data, .data], laidTests := true, laidLooks := .later }
def WotsChecksumCardSaid : Prop := Claim7.holds Tryd.pinned (.plain (OpenSpec.ofChange wotsChecksumSpec)) wotsChecksumCard

/-- THE TIED CARD OF 'stelelaw29.WotsForgery'. -/
def wotsForgeryCard : Claim7 := { stood := { row := wotsForgeryRow, standIns := [], harness := (true, "7e195dc577992c191a1fedaa496985ee3bb040edb63cd3bcaf20d6ccd175963f"), looks := false }, kinds := [], alts := [], laidByText := true, laidKinds := [.data, .data, .data], laidTests := true, laidLooks := .later }
def WotsForgeryCardSaid : Prop := Claim7.holds Tryd.pinned (.plain (OpenSpec.ofChange wotsForgerySpec)) wotsForgeryCard

/-- THE TIED CARD OF 'stelelaw29.WotsDeterministic'. -/
def wotsDeterministicCard : Claim7 := { stood := { row := wotsDeterministicRow, standIns := [], harness := (true, "7e195dc577992c191a1fedaa496985ee3bb040edb63cd3bcaf20d6ccd175963f"), looks := false }, kinds := [], alts := [], laidByText := true, laidKinds := [.data, .data, .data], laidTests := true, laidLooks := .later }
def WotsDeterministicCardSaid : Prop := Claim7.holds Tryd.pinned (.plain (OpenSpec.ofChange wotsDeterministicSpec)) wotsDeterministicCard

/-- THE TIED CARD OF 'stelelaw29.WotsChains'. -/
def wotsChainsCard : Claim7 := { stood := { row := wotsChainsRow, standIns := [], harness := (true, "7e195dc577992c191a1fedaa496985ee3bb040edb63cd3bcaf20d6ccd175963f"), looks := false }, kinds := [], alts := [], laidByText := true, laidKinds := [.data, .data, .data], laidTests := true, laidLooks := .later }
def WotsChainsCardSaid : Prop := Claim7.holds Tryd.pinned (.plain (OpenSpec.ofChange wotsChainsSpec)) wotsChainsCard

/-- THE SECOND FORM's CARD OF 'stelelaw29.WotsKeys'. -/
def wotsKeysUptoCard : Claim7 := { stood := { row := wotsKeysUptoRow, standIns := [], harness := (true, "7e195dc577992c191a1fedaa496985ee3bb040edb63cd3bcaf20d6ccd175963f"), looks := false }, kinds := [], alts := [], laidByText := true, laidKinds := [.data, .data, .data], laidTests := true, laidLooks := .later }
def WotsKeysUptoCardSaid : Prop := Claim7.holds Tryd.pinned (.plain (OpenSpec.upto wotsKeysSpec)) wotsKeysUptoCard

/-- THE SECOND FORM's CARD OF 'stelelaw29.WotsRecovers'. -/
def wotsRecoversUptoCard : Claim7 := { stood := { row := wotsRecoversUptoRow, standIns := [], harness := (true, "7e195dc577992c191a1fedaa496985ee3bb040edb63cd3bcaf20d6ccd175963f"), looks := false }, kinds := [], alts := [], laidByText := true, laidKinds := [.data, .data, .data], laidTests := true, laidLooks := .later }
def WotsRecoversUptoCardSaid : Prop := Claim7.holds Tryd.pinned (.plain (OpenSpec.upto wotsRecoversSpec)) wotsRecoversUptoCard

/-- THE SECOND FORM's CARD OF 'stelelaw29.WotsRoundTrip'. -/
def wotsRoundTripUptoCard : Claim7 := { stood := { row := wotsRoundTripUptoRow, standIns := [], harness := (true, "7e195dc577992c191a1fedaa496985ee3bb040edb63cd3bcaf20d6ccd175963f"), looks := false }, kinds := [], alts := [], laidByText := true, laidKinds := [.data, .data, .data], laidTests := true, laidLooks := .later }
def WotsRoundTripUptoCardSaid : Prop := Claim7.holds Tryd.pinned (.plain (OpenSpec.upto wotsRoundTripSpec)) wotsRoundTripUptoCard

/-- THE SECOND FORM's CARD OF 'stelelaw29.WotsChecksum'. -/
def wotsChecksumUptoCard : Claim7 := { stood := { row := wotsChecksumUptoRow, standIns := [], harness := (true, "7e195dc577992c191a1fedaa496985ee3bb040edb63cd3bcaf20d6ccd175963f"), looks := false }, kinds := [], alts := [], laidByText := true, laidKinds := [.data, .data, .data], laidTests := true, laidLooks := .later }
def WotsChecksumUptoCardSaid : Prop := Claim7.holds Tryd.pinned (.plain (OpenSpec.upto wotsChecksumSpec)) wotsChecksumUptoCard

/-- THE SECOND FORM's CARD OF 'stelelaw29.WotsForgery'. -/
def wotsForgeryUptoCard : Claim7 := { stood := { row := wotsForgeryUptoRow, standIns := [], harness := (true, "7e195dc577992c191a1fedaa496985ee3bb040edb63cd3bcaf20d6ccd175963f"), looks := false }, kinds := [], alts := [], laidByText := true, laidKinds := [.data, .data, .data], laidTests := true, laidLooks := .later }
def WotsForgeryUptoCardSaid : Prop := Claim7.holds Tryd.pinned (.plain (OpenSpec.upto wotsForgerySpec)) wotsForgeryUptoCard

/-- THE SECOND FORM's CARD OF 'stelelaw29.WotsDeterministic'. -/
def wotsDeterministicUptoCard : Claim7 := { stood := { row := wotsDeterministicUptoRow, standIns := [], harness := (true, "7e195dc577992c191a1fedaa496985ee3bb040edb63cd3bcaf20d6ccd175963f"), looks := false }, kinds := [], alts := [], laidByText := true, laidKinds := [.data, .data, .data], laidTests := true, laidLooks := .later }
def WotsDeterministicUptoCardSaid : Prop := Claim7.holds Tryd.pinned (.plain (OpenSpec.upto wotsDeterministicSpec)) wotsDeterministicUptoCard

/-- THE SECOND FORM's CARD OF 'stelelaw29.WotsChains'. -/
def wotsChainsUptoCard : Claim7 := { stood := { row := wotsChainsUptoRow, standIns := [], harness := (true, "7e195dc577992c191a1fedaa496985ee3bb040edb63cd3bcaf20d6ccd175963f"), looks := false }, kinds := [], alts := [], laidByText := true, laidKinds := [.data, .data, .data], laidTests := true, laidLooks := .later }
def WotsChainsUptoCardSaid : Prop := Claim7.holds Tryd.pinned (.plain (OpenSpec.upto wotsChainsSpec)) wotsChainsUptoCard
end Rows
end Go.Proofs.YtlfpppffjedngaaDoor
