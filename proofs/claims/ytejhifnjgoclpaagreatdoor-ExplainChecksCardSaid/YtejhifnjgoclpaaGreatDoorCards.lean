/-
  DERIVED. GIVEN WITH THE SEED: THE CARDS: each row of YtejhifnjgoclpaaGreatDoorRows.lean that lists a variable, with what it lists TIED to the program's text (the seventh form; the later family's looks); each row that meets fmt, with fmt's text TOLD by the authors' own Lean function (tested against real Go, not proved from fmt's source: count such statements apart). THE CARD IS WHAT COUNTS. Prove the row's statement (the work); the ties are given (YtejhifnjgoclpaaGreatDoorTie.lean); close each card by the builder's one call (the guide's Derived/Test/ToyasCard.lean, 'card_holds'). Laid BY PROGRAM, IN A SANDBOX (cutbox-door.mjs). By AI agents, Wed Nov 11 2026. No macro, syntax, notation, axiom, sorry.
-/
import Derived.Test.YtejhifnjgoclpaaGreatDoorRows
import GoSem.ClaimSeven
namespace Go.Proofs.YtejhifnjgoclpaaGreatDoor
namespace Rows

/-- THE TIED CARD OF 'chandlerlaw17.EncodeFacts'. -/
def encodeFactsCard : Claim7 := { stood := { row := encodeFactsRow, standIns := [], harness := (true, "0dc4056846e4ce8d4036248ab264379c587f17d5b213c7ad9877736d8d30cbf7"), looks := true }, kinds := [], alts := [], laidByText := true, laidKinds := [.data, .data, .data, .data, .pinned], laidTests := true, laidLooks := .later }
def EncodeFactsCardSaid : Prop := Claim7.holds Tryz.pinned (.plain (OpenSpec.ofChange encodeFactsSpec)) encodeFactsCard

/-- THE TIED CARD OF 'chandlerlaw17.EncodeClauses'. -/
def encodeClausesCard : Claim7 := { stood := { row := encodeClausesRow, standIns := [], harness := (true, "0dc4056846e4ce8d4036248ab264379c587f17d5b213c7ad9877736d8d30cbf7"), looks := true }, kinds := [], alts := [], laidByText := true, laidKinds := [.data, .data, .data, .data, .pinned], laidTests := true, laidLooks := .later }
def EncodeClausesCardSaid : Prop := Claim7.holds Tryz.pinned (.plain (OpenSpec.ofChange encodeClausesSpec)) encodeClausesCard

/-- THE TIED CARD OF 'chandlerlaw17.EncodeChoices'. -/
def encodeChoicesCard : Claim7 := { stood := { row := encodeChoicesRow, standIns := [], harness := (true, "0dc4056846e4ce8d4036248ab264379c587f17d5b213c7ad9877736d8d30cbf7"), looks := true }, kinds := [], alts := [], laidByText := true, laidKinds := [.data, .data, .data, .data, .pinned], laidTests := true, laidLooks := .later }
def EncodeChoicesCardSaid : Prop := Claim7.holds Tryz.pinned (.plain (OpenSpec.ofChange encodeChoicesSpec)) encodeChoicesCard

/-- THE TIED CARD OF 'chandlerlaw17.EncodeWhole'. -/
def encodeWholeCard : Claim7 := { stood := { row := encodeWholeRow, standIns := [], harness := (true, "0dc4056846e4ce8d4036248ab264379c587f17d5b213c7ad9877736d8d30cbf7"), looks := true }, kinds := [], alts := [], laidByText := true, laidKinds := [.data, .data, .data, .data, .pinned], laidTests := true, laidLooks := .later }
def EncodeWholeCardSaid : Prop := Claim7.holds Tryz.pinned (.plain (OpenSpec.ofChange encodeWholeSpec)) encodeWholeCard

/-- THE TIED CARD OF 'chandlerlaw17.EncodeNames'. -/
def encodeNamesCard : Claim7 := { stood := { row := encodeNamesRow, standIns := [], harness := (true, "0dc4056846e4ce8d4036248ab264379c587f17d5b213c7ad9877736d8d30cbf7"), looks := true }, kinds := [], alts := [], laidByText := true, laidKinds := [.data, .data, .data, .data, .pinned], laidTests := true, laidLooks := .later }
def EncodeNamesCardSaid : Prop := Claim7.holds Tryz.pinned (.plain (OpenSpec.ofChange encodeNamesSpec)) encodeNamesCard

/-- THE TIED CARD OF 'chandlerlaw20.ExplainChecks'. -/
def explainChecksCard : Claim7 := { stood := { row := explainChecksRow, standIns := [], harness := (true, "0dc4056846e4ce8d4036248ab264379c587f17d5b213c7ad9877736d8d30cbf7"), looks := true }, kinds := [], alts := [], laidByText := true, laidKinds := [.data, .data, .data, .data, .pinned], laidTests := true, laidLooks := .later }
def ExplainChecksCardSaid : Prop := Claim7.holds Tryz.pinned (.plain (OpenSpec.ofChange explainChecksSpec)) explainChecksCard

/-- THE TIED CARD OF 'chandlerlaw20.ExplainSound'. -/
def explainSoundCard : Claim7 := { stood := { row := explainSoundRow, standIns := [], harness := (true, "0dc4056846e4ce8d4036248ab264379c587f17d5b213c7ad9877736d8d30cbf7"), looks := true }, kinds := [], alts := [], laidByText := true, laidKinds := [.data, .data, .data, .data, .pinned], laidTests := true, laidLooks := .later }
def ExplainSoundCardSaid : Prop := Claim7.holds Tryz.pinned (.plain (OpenSpec.ofChange explainSoundSpec)) explainSoundCard

/-- THE SECOND FORM's CARD OF 'chandlerlaw17.EncodeFacts'. -/
def encodeFactsUptoCard : Claim7 := { stood := { row := encodeFactsUptoRow, standIns := [], harness := (true, "0dc4056846e4ce8d4036248ab264379c587f17d5b213c7ad9877736d8d30cbf7"), looks := true }, kinds := [], alts := [], laidByText := true, laidKinds := [.data, .data, .data, .data, .pinned], laidTests := true, laidLooks := .later }
def EncodeFactsUptoCardSaid : Prop := Claim7.holds Tryz.pinned (.plain (OpenSpec.upto encodeFactsSpec)) encodeFactsUptoCard

/-- THE SECOND FORM's CARD OF 'chandlerlaw17.EncodeClauses'. -/
def encodeClausesUptoCard : Claim7 := { stood := { row := encodeClausesUptoRow, standIns := [], harness := (true, "0dc4056846e4ce8d4036248ab264379c587f17d5b213c7ad9877736d8d30cbf7"), looks := true }, kinds := [], alts := [], laidByText := true, laidKinds := [.data, .data, .data, .data, .pinned], laidTests := true, laidLooks := .later }
def EncodeClausesUptoCardSaid : Prop := Claim7.holds Tryz.pinned (.plain (OpenSpec.upto encodeClausesSpec)) encodeClausesUptoCard

/-- THE SECOND FORM's CARD OF 'chandlerlaw17.EncodeChoices'. -/
def encodeChoicesUptoCard : Claim7 := { stood := { row := encodeChoicesUptoRow, standIns := [], harness := (true, "0dc4056846e4ce8d4036248ab264379c587f17d5b213c7ad9877736d8d30cbf7"), looks := true }, kinds := [], alts := [], laidByText := true, laidKinds := [.data, .data, .data, .data, .pinned], laidTests := true, laidLooks := .later }
def EncodeChoicesUptoCardSaid : Prop := Claim7.holds Tryz.pinned (.plain (OpenSpec.upto encodeChoicesSpec)) encodeChoicesUptoCard

/-- THE SECOND FORM's CARD OF 'chandlerlaw17.EncodeWhole'. -/
def encodeWholeUptoCard : Claim7 := { stood := { row := encodeWholeUptoRow, standIns := [], harness := (true, "0dc4056846e4ce8d4036248ab264379c587f17d5b213c7ad9877736d8d30cbf7"), looks := true }, kinds := [], alts := [], laidByText := true, laidKinds := [.data, .data, .data, .data, .pinned], laidTests := true, laidLooks := .later }
def EncodeWholeUptoCardSaid : Prop := Claim7.holds Tryz.pinned (.plain (OpenSpec.upto encodeWholeSpec)) encodeWholeUptoCard

/-- THE SECOND FORM's CARD OF 'chandlerlaw17.EncodeNames'. -/
def encodeNamesUptoCard : Claim7 := { stood := { row := encodeNamesUptoRow, standIns := [], harness := (true, "0dc4056846e4ce8d4036248ab264379c587f17d5b213c7ad9877736d8d30cbf7"), looks := true }, kinds := [], alts := [], laidByText := true, laidKinds := [.data, .data, .data, .data, .pinned], laidTests := true, laidLooks := .later }
def EncodeNamesUptoCardSaid : Prop := Claim7.holds Tryz.pinned (.plain (OpenSpec.upto encodeNamesSpec)) encodeNamesUptoCard

/-- THE SECOND FORM's CARD OF 'chandlerlaw20.ExplainChecks'. -/
def explainChecksUptoCard : Claim7 := { stood := { row := explainChecksUptoRow, standIns := [], harness := (true, "0dc4056846e4ce8d4036248ab264379c587f17d5b213c7ad9877736d8d30cbf7"), looks := true }, kinds := [], alts := [], laidByText := true, laidKinds := [.data, .data, .data, .data, .pinned], laidTests := true, laidLooks := .later }
def ExplainChecksUptoCardSaid : Prop := Claim7.holds Tryz.pinned (.plain (OpenSpec.upto explainChecksSpec)) explainChecksUptoCard

/-- THE SECOND FORM's CARD OF 'chandlerlaw20.ExplainSound'. -/
def explainSoundUptoCard : Claim7 := { stood := { row := explainSoundUptoRow, standIns := [], harness := (true, "0dc4056846e4ce8d4036248ab264379c587f17d5b213c7ad9877736d8d30cbf7"), looks := true }, kinds := [], alts := [], laidByText := true, laidKinds := [.data, .data, .data, .data, .pinned], laidTests := true, laidLooks := .later }
def ExplainSoundUptoCardSaid : Prop := Claim7.holds Tryz.pinned (.plain (OpenSpec.upto explainSoundSpec)) explainSoundUptoCard
end Rows
end Go.Proofs.YtejhifnjgoclpaaGreatDoor
