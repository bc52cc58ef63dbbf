/-
  DERIVED. GIVEN WITH THE SEED: THE CARDS: each row of YtgdgdaofmjnepaaDoorRows.lean that lists a variable, with what it lists TIED to the program's text (the seventh form; the later family's looks); each row that meets fmt, with fmt's text TOLD by the authors' own Lean function (tested against real Go, not proved from fmt's source: count such statements apart). THE CARD IS WHAT COUNTS. Prove the row's statement (the work); the ties are given (YtgdgdaofmjnepaaDoorTie.lean); close each card by the builder's one call (the guide's Derived/Test/ToyasCard.lean, 'card_holds'). Laid BY PROGRAM, IN A SANDBOX (cutbox-door.mjs). By AI agents, Wed Nov 11 2026. No macro, syntax, notation, axiom, sorry.
-/
import Derived.Test.YtgdgdaofmjnepaaDoorRows
import GoSem.ClaimSeven
namespace Go.Proofs.YtgdgdaofmjnepaaDoor
namespace Rows

/-- THE TIED CARD OF 'clavecinlaw02.TonePowers'. -/
def tonePowersCard : Claim7 := { stood := { row := tonePowersRow, standIns := [], harness := (true, "0260e41de432311991f567424e99b9d58c4436775accb9810f64fd6db38875a8"), looks := true }, kinds := [], alts := [], laidByText := true, laidKinds := [.data, .data, .data], laidTests := true, laidLooks := .later }
def TonePowersCardSaid : Prop := Claim7.holds Tryd.pinned (.plain (OpenSpec.ofChange tonePowersSpec)) tonePowersCard

/-- THE TIED CARD OF 'clavecinlaw02.ToneSizes'. -/
def toneSizesCard : Claim7 := { stood := { row := toneSizesRow, standIns := [], harness := (true, "0260e41de432311991f567424e99b9d58c4436775accb9810f64fd6db38875a8"), looks := true }, kinds := [], alts := [], laidByText := true, laidKinds := [.data, .data, .data], laidTests := true, laidLooks := .later }
def ToneSizesCardSaid : Prop := Claim7.holds Tryd.pinned (.plain (OpenSpec.ofChange toneSizesSpec)) toneSizesCard

/-- THE TIED CARD OF 'clavecinlaw02.TonePowersOf'. -/
def tonePowersOfCard : Claim7 := { stood := { row := tonePowersOfRow, standIns := [], harness := (true, "0260e41de432311991f567424e99b9d58c4436775accb9810f64fd6db38875a8"), looks := true }, kinds := [], alts := [], laidByText := true, laidKinds := [.data, .data, .data], laidTests := true, laidLooks := .later }
def TonePowersOfCardSaid : Prop := Claim7.holds Tryd.pinned (.plain (OpenSpec.ofChange tonePowersOfSpec)) tonePowersOfCard

/-- THE TIED CARD OF 'clavecinlaw02.ToneCents'. -/
def toneCentsCard : Claim7 := { stood := { row := toneCentsRow, standIns := [], harness := (true, "0260e41de432311991f567424e99b9d58c4436775accb9810f64fd6db38875a8"), looks := true }, kinds := [], alts := [], laidByText := true, laidKinds := [.data, .data, .data], laidTests := true, laidLooks := .later }
def ToneCentsCardSaid : Prop := Claim7.holds Tryd.pinned (.plain (OpenSpec.ofChange toneCentsSpec)) toneCentsCard

/-- THE TIED CARD OF 'clavecinlaw02.ToneMuls'. -/
def toneMulsCard : Claim7 := { stood := { row := toneMulsRow, standIns := [], harness := (true, "0260e41de432311991f567424e99b9d58c4436775accb9810f64fd6db38875a8"), looks := true }, kinds := [], alts := [], laidByText := true, laidKinds := [.data, .data, .data], laidTests := true, laidLooks := .later }
def ToneMulsCardSaid : Prop := Claim7.holds Tryd.pinned (.plain (OpenSpec.ofChange toneMulsSpec)) toneMulsCard

/-- THE TIED CARD OF 'clavecinlaw02.ToneGroup'. -/
def toneGroupCard : Claim7 := { stood := { row := toneGroupRow, standIns := [], harness := (true, "0260e41de432311991f567424e99b9d58c4436775accb9810f64fd6db38875a8"), looks := true }, kinds := [], alts := [], laidByText := true, laidKinds := [.data, .data, .data], laidTests := true, laidLooks := .later }
def ToneGroupCardSaid : Prop := Claim7.holds Tryd.pinned (.plain (OpenSpec.ofChange toneGroupSpec)) toneGroupCard

/-- THE TIED CARD OF 'clavecinlaw02.ToneCmps'. -/
def toneCmpsCard : Claim7 := { stood := { row := toneCmpsRow, standIns := [], harness := (true, "0260e41de432311991f567424e99b9d58c4436775accb9810f64fd6db38875a8"), looks := true }, kinds := [], alts := [], laidByText := true, laidKinds := [.data, .data, .data], laidTests := true, laidLooks := .later }
def ToneCmpsCardSaid : Prop := Claim7.holds Tryd.pinned (.plain (OpenSpec.ofChange toneCmpsSpec)) toneCmpsCard

/-- THE TIED CARD OF 'clavecinlaw02.ToneOctaves'. -/
def toneOctavesCard : Claim7 := { stood := { row := toneOctavesRow, standIns := [], harness := (true, "0260e41de432311991f567424e99b9d58c4436775accb9810f64fd6db38875a8"), looks := true }, kinds := [], alts := [], laidByText := true, laidKinds := [.data, .data, .data], laidTests := true, laidLooks := .later }
def ToneOctavesCardSaid : Prop := Claim7.holds Tryd.pinned (.plain (OpenSpec.ofChange toneOctavesSpec)) toneOctavesCard

/-- THE TIED CARD OF 'clavecinlaw02.ToneMakes'. -/
def toneMakesCard : Claim7 := { stood := { row := toneMakesRow, standIns := [], harness := (true, "0260e41de432311991f567424e99b9d58c4436775accb9810f64fd6db38875a8"), looks := true }, kinds := [], alts := [], laidByText := true, laidKinds := [.data, .data, .data], laidTests := true, laidLooks := .later }
def ToneMakesCardSaid : Prop := Claim7.holds Tryd.pinned (.plain (OpenSpec.ofChange toneMakesSpec)) toneMakesCard

/-- THE TIED CARD OF 'clavecinlaw02.ToneCommas'. -/
def toneCommasCard : Claim7 := { stood := { row := toneCommasRow, standIns := [], harness := (true, "0260e41de432311991f567424e99b9d58c4436775accb9810f64fd6db38875a8"), looks := true }, kinds := [], alts := [], laidByText := true, laidKinds := [.data, .data, .data], laidTests := true, laidLooks := .later }
def ToneCommasCardSaid : Prop := Claim7.holds Tryd.pinned (.plain (OpenSpec.ofChange toneCommasSpec)) toneCommasCard

/-- THE TIED CARD OF 'clavecinlaw02.ToneOrder'. -/
def toneOrderCard : Claim7 := { stood := { row := toneOrderRow, standIns := [], harness := (true, "0260e41de432311991f567424e99b9d58c4436775accb9810f64fd6db38875a8"), looks := true }, kinds := [], alts := [], laidByText := true, laidKinds := [.data, .data, .data], laidTests := true, laidLooks := .later }
def ToneOrderCardSaid : Prop := Claim7.holds Tryd.pinned (.plain (OpenSpec.ofChange toneOrderSpec)) toneOrderCard

/-- THE TIED CARD OF 'clavecinlaw02.ToneFolded'. -/
def toneFoldedCard : Claim7 := { stood := { row := toneFoldedRow, standIns := [], harness := (true, "0260e41de432311991f567424e99b9d58c4436775accb9810f64fd6db38875a8"), looks := true }, kinds := [], alts := [], laidByText := true, laidKinds := [.data, .data, .data], laidTests := true, laidLooks := .later }
def ToneFoldedCardSaid : Prop := Claim7.holds Tryd.pinned (.plain (OpenSpec.ofChange toneFoldedSpec)) toneFoldedCard

/-- THE TIED CARD OF 'clavecinlaw02.ToneFareys'. -/
def toneFareysCard : Claim7 := { stood := { row := toneFareysRow, standIns := [], harness := (true, "0260e41de432311991f567424e99b9d58c4436775accb9810f64fd6db38875a8"), looks := true }, kinds := [], alts := [], laidByText := true, laidKinds := [.data, .data, .data], laidTests := true, laidLooks := .later }
def ToneFareysCardSaid : Prop := Claim7.holds Tryd.pinned (.plain (OpenSpec.ofChange toneFareysSpec)) toneFareysCard

/-- THE TIED CARD OF 'clavecinlaw02.ToneNext'. -/
def toneNextCard : Claim7 := { stood := { row := toneNextRow, standIns := [], harness := (true, "0260e41de432311991f567424e99b9d58c4436775accb9810f64fd6db38875a8"), looks := true }, kinds := [], alts := [], laidByText := true, laidKinds := [.data, .data, .data], laidTests := true, laidLooks := .later }
def ToneNextCardSaid : Prop := Claim7.holds Tryd.pinned (.plain (OpenSpec.ofChange toneNextSpec)) toneNextCard

/-- THE TIED CARD OF 'clavecinlaw02.ToneDivides'. -/
def toneDividesCard : Claim7 := { stood := { row := toneDividesRow, standIns := [], harness := (true, "0260e41de432311991f567424e99b9d58c4436775accb9810f64fd6db38875a8"), looks := true }, kinds := [], alts := [], laidByText := true, laidKinds := [.data, .data, .data], laidTests := true, laidLooks := .later }
def ToneDividesCardSaid : Prop := Claim7.holds Tryd.pinned (.plain (OpenSpec.ofChange toneDividesSpec)) toneDividesCard

/-- THE TIED CARD OF 'clavecinlaw02.ToneNear'. -/
def toneNearCard : Claim7 := { stood := { row := toneNearRow, standIns := [], harness := (true, "0260e41de432311991f567424e99b9d58c4436775accb9810f64fd6db38875a8"), looks := true }, kinds := [], alts := [], laidByText := true, laidKinds := [.data, .data, .data], laidTests := true, laidLooks := .later }
def ToneNearCardSaid : Prop := Claim7.holds Tryd.pinned (.plain (OpenSpec.ofChange toneNearSpec)) toneNearCard

/-- THE TIED CARD OF 'clavecinlaw02.ToneFreqs'. -/
def toneFreqsCard : Claim7 := { stood := { row := toneFreqsRow, standIns := [], harness := (true, "0260e41de432311991f567424e99b9d58c4436775accb9810f64fd6db38875a8"), looks := true }, kinds := [], alts := [], laidByText := true, laidKinds := [.data, .data, .data], laidTests := true, laidLooks := .later }
def ToneFreqsCardSaid : Prop := Claim7.holds Tryd.pinned (.plain (OpenSpec.ofChange toneFreqsSpec)) toneFreqsCard

/-- THE TIED CARD OF 'clavecinlaw02.ToneExact'. -/
def toneExactCard : Claim7 := { stood := { row := toneExactRow, standIns := [], harness := (true, "0260e41de432311991f567424e99b9d58c4436775accb9810f64fd6db38875a8"), looks := true }, kinds := [], alts := [], laidByText := true, laidKinds := [.data, .data, .data], laidTests := true, laidLooks := .later }
def ToneExactCardSaid : Prop := Claim7.holds Tryd.pinned (.plain (OpenSpec.ofChange toneExactSpec)) toneExactCard

/-- THE TIED CARD OF 'clavecinlaw02.ToneBack'. -/
def toneBackCard : Claim7 := { stood := { row := toneBackRow, standIns := [], harness := (true, "0260e41de432311991f567424e99b9d58c4436775accb9810f64fd6db38875a8"), looks := true }, kinds := [], alts := [], laidByText := true, laidKinds := [.data, .data, .data, .data, .sentinel, .sentinel, .pinned], laidTests := true, laidLooks := .later }
def ToneBackCardSaid : Prop := Claim7.holds Tryd.pinned (.plain (OpenSpec.ofChange toneBackSpec)) toneBackCard

/-- THE SECOND FORM's CARD OF 'clavecinlaw02.TonePowers'. -/
def tonePowersUptoCard : Claim7 := { stood := { row := tonePowersUptoRow, standIns := [], harness := (true, "0260e41de432311991f567424e99b9d58c4436775accb9810f64fd6db38875a8"), looks := true }, kinds := [], alts := [], laidByText := true, laidKinds := [.data, .data, .data], laidTests := true, laidLooks := .later }
def TonePowersUptoCardSaid : Prop := Claim7.holds Tryd.pinned (.plain (OpenSpec.upto tonePowersSpec)) tonePowersUptoCard

/-- THE SECOND FORM's CARD OF 'clavecinlaw02.ToneSizes'. -/
def toneSizesUptoCard : Claim7 := { stood := { row := toneSizesUptoRow, standIns := [], harness := (true, "0260e41de432311991f567424e99b9d58c4436775accb9810f64fd6db38875a8"), looks := true }, kinds := [], alts := [], laidByText := true, laidKinds := [.data, .data, .data], laidTests := true, laidLooks := .later }
def ToneSizesUptoCardSaid : Prop := Claim7.holds Tryd.pinned (.plain (OpenSpec.upto toneSizesSpec)) toneSizesUptoCard

/-- THE SECOND FORM's CARD OF 'clavecinlaw02.TonePowersOf'. -/
def tonePowersOfUptoCard : Claim7 := { stood := { row := tonePowersOfUptoRow, standIns := [], harness := (true, "0260e41de432311991f567424e99b9d58c4436775accb9810f64fd6db38875a8"), looks := true }, kinds := [], alts := [], laidByText := true, laidKinds := [.data, .data, .data], laidTests := true, laidLooks := .later }
def TonePowersOfUptoCardSaid : Prop := Claim7.holds Tryd.pinned (.plain (OpenSpec.upto tonePowersOfSpec)) tonePowersOfUptoCard

/-- THE SECOND FORM's CARD OF 'clavecinlaw02.ToneCents'. -/
def toneCentsUptoCard : Claim7 := { stood := { row := toneCentsUptoRow, standIns := [], harness := (true, "0260e41de432311991f567424e99b9d58c4436775accb9810f64fd6db38875a8"), looks := true }, kinds := [], alts := [], laidByText := true, laidKinds := [.data, .data, .data], laidTests := true, laidLooks := .later }
def ToneCentsUptoCardSaid : Prop := Claim7.holds Tryd.pinned (.plain (OpenSpec.upto toneCentsSpec)) toneCentsUptoCard

/-- THE SECOND FORM's CARD OF 'clavecinlaw02.ToneMuls'. -/
def toneMulsUptoCard : Claim7 := { stood := { row := toneMulsUptoRow, standIns := [], harness := (true, "0260e41de432311991f567424e99b9d58c4436775accb9810f64fd6db38875a8"), looks := true }, kinds := [], alts := [], laidByText := true, laidKinds := [.data, .data, .data], laidTests := true, laidLooks := .later }
def ToneMulsUptoCardSaid : Prop := Claim7.holds Tryd.pinned (.plain (OpenSpec.upto toneMulsSpec)) toneMulsUptoCard

/-- THE SECOND FORM's CARD OF 'clavecinlaw02.ToneGroup'. -/
def toneGroupUptoCard : Claim7 := { stood := { row := toneGroupUptoRow, standIns := [], harness := (true, "0260e41de432311991f567424e99b9d58c4436775accb9810f64fd6db38875a8"), looks := true }, kinds := [], alts := [], laidByText := true, laidKinds := [.data, .data, .data], laidTests := true, laidLooks := .later }
def ToneGroupUptoCardSaid : Prop := Claim7.holds Tryd.pinned (.plain (OpenSpec.upto toneGroupSpec)) toneGroupUptoCard

/-- THE SECOND FORM's CARD OF 'clavecinlaw02.ToneCmps'. -/
def toneCmpsUptoCard : Claim7 := { stood := { row := toneCmpsUptoRow, standIns := [], harness := (true, "0260e41de432311991f567424e99b9d58c4436775accb9810f64fd6db38875a8"), looks := true }, kinds := [], alts := [], laidByText := true, laidKinds := [.data, .data, .data], laidTests := true, laidLooks := .later }
def ToneCmpsUptoCardSaid : Prop := Claim7.holds Tryd.pinned (.plain (OpenSpec.upto toneCmpsSpec)) toneCmpsUptoCard

/-- THE SECOND FORM's CARD OF 'clavecinlaw02.ToneOctaves'. -/
def toneOctavesUptoCard : Claim7 := { stood := { row := toneOctavesUptoRow, standIns := [], harness := (true, "0260e41de432311991f567424e99b9d58c4436775accb9810f64fd6db38875a8"), looks := true }, kinds := [], alts := [], laidByText := true, laidKinds := [.data, .data, .data], laidTests := true, laidLooks := .later }
def ToneOctavesUptoCardSaid : Prop := Claim7.holds Tryd.pinned (.plain (OpenSpec.upto toneOctavesSpec)) toneOctavesUptoCard

/-- THE SECOND FORM's CARD OF 'clavecinlaw02.ToneMakes'. -/
def toneMakesUptoCard : Claim7 := { stood := { row := toneMakesUptoRow, standIns := [], harness := (true, "0260e41de432311991f567424e99b9d58c4436775accb9810f64fd6db38875a8"), looks := true }, kinds := [], alts := [], laidByText := true, laidKinds := [.data, .data, .data], laidTests := true, laidLooks := .later }
def ToneMakesUptoCardSaid : Prop := Claim7.holds Tryd.pinned (.plain (OpenSpec.upto toneMakesSpec)) toneMakesUptoCard

/-- THE SECOND FORM's CARD OF 'clavecinlaw02.ToneCommas'. -/
def toneCommasUptoCard : Claim7 := { stood := { row := toneCommasUptoRow, standIns := [], harness := (true, "0260e41de432311991f567424e99b9d58c4436775accb9810f64fd6db38875a8"), looks := true }, kinds := [], alts := [], laidByText := true, laidKinds := [.data, .data, .data], laidTests := true, laidLooks := .later }
def ToneCommasUptoCardSaid : Prop := Claim7.holds Tryd.pinned (.plain (OpenSpec.upto toneCommasSpec)) toneCommasUptoCard

/-- THE SECOND FORM's CARD OF 'clavecinlaw02.ToneOrder'. -/
def toneOrderUptoCard : Claim7 := { stood := { row := toneOrderUptoRow, standIns := [], harness := (true, "0260e41de432311991f567424e99b9d58c4436775accb9810f64fd6db38875a8"), looks := true }, kinds := [], alts := [], laidByText := true, laidKinds := [.data, .data, .data], laidTests := true, laidLooks := .later }
def ToneOrderUptoCardSaid : Prop := Claim7.holds Tryd.pinned (.plain (OpenSpec.upto toneOrderSpec)) toneOrderUptoCard

/-- THE SECOND FORM's CARD OF 'clavecinlaw02.ToneFolded'. -/
def toneFoldedUptoCard : Claim7 := { stood := { row := toneFoldedUptoRow, standIns := [], harness := (true, "0260e41de432311991f567424e99b9d58c4436775accb9810f64fd6db38875a8"), looks := true }, kinds := [], alts := [], laidByText := true, laidKinds := [.data, .data, .data], laidTests := true, laidLooks := .later }
def ToneFoldedUptoCardSaid : Prop := Claim7.holds Tryd.pinned (.plain (OpenSpec.upto toneFoldedSpec)) toneFoldedUptoCard

/-- THE SECOND FORM's CARD OF 'clavecinlaw02.ToneFareys'. -/
def toneFareysUptoCard : Claim7 := { stood := { row := toneFareysUptoRow, standIns := [], harness := (true, "0260e41de432311991f567424e99b9d58c4436775accb9810f64fd6db38875a8"), looks := true }, kinds := [], alts := [], laidByText := true, laidKinds := [.data, .data, .data], laidTests := true, laidLooks := .later }
def ToneFareysUptoCardSaid : Prop := Claim7.holds Tryd.pinned (.plain (OpenSpec.upto toneFareysSpec)) toneFareysUptoCard

/-- THE SECOND FORM's CARD OF 'clavecinlaw02.ToneNext'. -/
def toneNextUptoCard : Claim7 := { stood := { row := toneNextUptoRow, standIns := [], harness := (true, "0260e41de432311991f567424e99b9d58c4436775accb9810f64fd6db38875a8"), looks := true }, kinds := [], alts := [], laidByText := true, laidKinds := [.data, .data, .data], laidTests := true, laidLooks := .later }
def ToneNextUptoCardSaid : Prop := Claim7.holds Tryd.pinned (.plain (OpenSpec.upto toneNextSpec)) toneNextUptoCard

/-- THE SECOND FORM's CARD OF 'clavecinlaw02.ToneDivides'. -/
def toneDividesUptoCard : Claim7 := { stood := { row := toneDividesUptoRow, standIns := [], harness := (true, "0260e41de432311991f567424e99b9d58c4436775accb9810f64fd6db38875a8"), looks := true }, kinds := [], alts := [], laidByText := true, laidKinds := [.data, .data, .data], laidTests := true, laidLooks := .later }
def ToneDividesUptoCardSaid : Prop := Claim7.holds Tryd.pinned (.plain (OpenSpec.upto toneDividesSpec)) toneDividesUptoCard

/-- THE SECOND FORM's CARD OF 'clavecinlaw02.ToneNear'. -/
def toneNearUptoCard : Claim7 := { stood := { row := toneNearUptoRow, standIns := [], harness := (true, "0260e41de432311991f567424e99b9d58c4436775accb9810f64fd6db38875a8"), looks := true }, kinds := [], alts := [], laidByText := true, laidKinds := [.data, .data, .data], laidTests := true, laidLooks := .later }
def ToneNearUptoCardSaid : Prop := Claim7.holds Tryd.pinned (.plain (OpenSpec.upto toneNearSpec)) toneNearUptoCard

/-- THE SECOND FORM's CARD OF 'clavecinlaw02.ToneFreqs'. -/
def toneFreqsUptoCard : Claim7 := { stood := { row := toneFreqsUptoRow, standIns := [], harness := (true, "0260e41de432311991f567424e99b9d58c4436775accb9810f64fd6db38875a8"), looks := true }, kinds := [], alts := [], laidByText := true, laidKinds := [.data, .data, .data], laidTests := true, laidLooks := .later }
def ToneFreqsUptoCardSaid : Prop := Claim7.holds Tryd.pinned (.plain (OpenSpec.upto toneFreqsSpec)) toneFreqsUptoCard

/-- THE SECOND FORM's CARD OF 'clavecinlaw02.ToneExact'. -/
def toneExactUptoCard : Claim7 := { stood := { row := toneExactUptoRow, standIns := [], harness := (true, "0260e41de432311991f567424e99b9d58c4436775accb9810f64fd6db38875a8"), looks := true }, kinds := [], alts := [], laidByText := true, laidKinds := [.data, .data, .data], laidTests := true, laidLooks := .later }
def ToneExactUptoCardSaid : Prop := Claim7.holds Tryd.pinned (.plain (OpenSpec.upto toneExactSpec)) toneExactUptoCard

/-- THE SECOND FORM's CARD OF 'clavecinlaw02.ToneBack'. -/
def toneBackUptoCard : Claim7 := { stood := { row := toneBackUptoRow, standIns := [], harness := (true, "0260e41de432311991f567424e99b9d58c4436775accb9810f64fd6db38875a8"), looks := true }, kinds := [], alts := [], laidByText := true, laidKinds := [.data, .data, .data, .data, .sentinel, .sentinel, .pinned], laidTests := true, laidLooks := .later }
def ToneBackUptoCardSaid : Prop := Claim7.holds Tryd.pinned (.plain (OpenSpec.upto toneBackSpec)) toneBackUptoCard
end Rows
end Go.Proofs.YtgdgdaofmjnepaaDoor
