/-
  DERIVED. GIVEN WITH THE SEED: THE CARDS: each row of YtnjgcjgfnjcgdaaDoorRows.lean that lists a variable, with what it lists TIED to the program's text (the seventh form; the later family's looks); each row that meets fmt, with fmt's text TOLD by the authors' own Lean function (tested against real Go, not proved from fmt's source: count such statements apart). THE CARD IS WHAT COUNTS. Prove the row's statement (the work); the ties are given (YtnjgcjgfnjcgdaaDoorTie.lean); close each card by the builder's one call (the guide's Derived/Test/ToyasCard.lean, 'card_holds'). Laid BY PROGRAM, IN A SANDBOX (cutbox-door.mjs). By AI agents, Wed Nov 11 2026. No macro, syntax, notation, axiom, sorry.
-/
import Derived.Test.YtnjgcjgfnjcgdaaDoorRows
import GoSem.ClaimSeven
namespace Go.Proofs.YtnjgcjgfnjcgdaaDoor
namespace Rows

/-- THE TIED CARD OF 'hallmootlaw08.ValueMatchesSpec'. -/
def valueMatchesSpecCard : Claim7 := { stood := { row := valueMatchesSpecRow, standIns := [], harness := (true, "e82ffb401c8c2b31fdcf7c58db750e7b8ff71cacee718a2ebab5cdedf0696b98"), looks := true }, kinds := [], alts := [], laidByText := true, laidKinds := [.data, .data, .data, .funcs], laidTests := true, laidLooks := .later }
def ValueMatchesSpecCardSaid : Prop := Claim7.holds Tryd.pinned (.plain (OpenSpec.ofChange valueMatchesSpecSpec)) valueMatchesSpecCard

/-- THE TIED CARD OF 'hallmootlaw08.ValueBinMatchesSpec'. -/
def valueBinMatchesSpecCard : Claim7 := { stood := { row := valueBinMatchesSpecRow, standIns := [], harness := (true, "e82ffb401c8c2b31fdcf7c58db750e7b8ff71cacee718a2ebab5cdedf0696b98"), looks := true }, kinds := [], alts := [], laidByText := true, laidKinds := [.data, .data, .data, .funcs], laidTests := true, laidLooks := .later }
def ValueBinMatchesSpecCardSaid : Prop := Claim7.holds Tryd.pinned (.plain (OpenSpec.ofChange valueBinMatchesSpecSpec)) valueBinMatchesSpecCard

/-- THE TIED CARD OF 'hallmootlaw08.ValueIsRing'. -/
def valueIsRingCard : Claim7 := { stood := { row := valueIsRingRow, standIns := [], harness := (true, "e82ffb401c8c2b31fdcf7c58db750e7b8ff71cacee718a2ebab5cdedf0696b98"), looks := true }, kinds := [], alts := [], laidByText := true, laidKinds := [.data, .data, .data, .funcs], laidTests := true, laidLooks := .later }
def ValueIsRingCardSaid : Prop := Claim7.holds Tryd.pinned (.plain (OpenSpec.ofChange valueIsRingSpec)) valueIsRingCard

/-- THE TIED CARD OF 'hallmootlaw08.ValueRoundIsCongruent'. -/
def valueRoundIsCongruentCard : Claim7 := { stood := { row := valueRoundIsCongruentRow, standIns := [], harness := (true, "e82ffb401c8c2b31fdcf7c58db750e7b8ff71cacee718a2ebab5cdedf0696b98"), looks := true }, kinds := [], alts := [], laidByText := true, laidKinds := [.data, .data, .data, .funcs], laidTests := true, laidLooks := .later }
def ValueRoundIsCongruentCardSaid : Prop := Claim7.holds Tryd.pinned (.plain (OpenSpec.ofChange valueRoundIsCongruentSpec)) valueRoundIsCongruentCard

/-- THE TIED CARD OF 'hallmootlaw08.ValueOrderIsTotal'. -/
def valueOrderIsTotalCard : Claim7 := { stood := { row := valueOrderIsTotalRow, standIns := [], harness := (true, "e82ffb401c8c2b31fdcf7c58db750e7b8ff71cacee718a2ebab5cdedf0696b98"), looks := true }, kinds := [], alts := [], laidByText := true, laidKinds := [.data, .data, .data, .funcs], laidTests := true, laidLooks := .later }
def ValueOrderIsTotalCardSaid : Prop := Claim7.holds Tryd.pinned (.plain (OpenSpec.ofChange valueOrderIsTotalSpec)) valueOrderIsTotalCard

/-- THE TIED CARD OF 'hallmootlaw08.ValueShowIsInjective'. -/
def valueShowIsInjectiveCard : Claim7 := { stood := { row := valueShowIsInjectiveRow, standIns := [], harness := (true, "e82ffb401c8c2b31fdcf7c58db750e7b8ff71cacee718a2ebab5cdedf0696b98"), looks := true }, kinds := [], alts := [], laidByText := true, laidKinds := [.data, .data, .data, .funcs], laidTests := true, laidLooks := .later }
def ValueShowIsInjectiveCardSaid : Prop := Claim7.holds Tryd.pinned (.plain (OpenSpec.ofChange valueShowIsInjectiveSpec)) valueShowIsInjectiveCard

/-- THE TIED CARD OF 'hallmootlaw08.ValueStaysValid'. -/
def valueStaysValidCard : Claim7 := { stood := { row := valueStaysValidRow, standIns := [], harness := (true, "e82ffb401c8c2b31fdcf7c58db750e7b8ff71cacee718a2ebab5cdedf0696b98"), looks := true }, kinds := [], alts := [], laidByText := true, laidKinds := [.data, .data, .data, .funcs], laidTests := true, laidLooks := .later }
def ValueStaysValidCardSaid : Prop := Claim7.holds Tryd.pinned (.plain (OpenSpec.ofChange valueStaysValidSpec)) valueStaysValidCard

/-- THE SECOND FORM's CARD OF 'hallmootlaw08.ValueMatchesSpec'. -/
def valueMatchesSpecUptoCard : Claim7 := { stood := { row := valueMatchesSpecUptoRow, standIns := [], harness := (true, "e82ffb401c8c2b31fdcf7c58db750e7b8ff71cacee718a2ebab5cdedf0696b98"), looks := true }, kinds := [], alts := [], laidByText := true, laidKinds := [.data, .data, .data, .funcs], laidTests := true, laidLooks := .later }
def ValueMatchesSpecUptoCardSaid : Prop := Claim7.holds Tryd.pinned (.plain (OpenSpec.upto valueMatchesSpecSpec)) valueMatchesSpecUptoCard

/-- THE SECOND FORM's CARD OF 'hallmootlaw08.ValueBinMatchesSpec'. -/
def valueBinMatchesSpecUptoCard : Claim7 := { stood := { row := valueBinMatchesSpecUptoRow, standIns := [], harness := (true, "e82ffb401c8c2b31fdcf7c58db750e7b8ff71cacee718a2ebab5cdedf0696b98"), looks := true }, kinds := [], alts := [], laidByText := true, laidKinds := [.data, .data, .data, .funcs], laidTests := true, laidLooks := .later }
def ValueBinMatchesSpecUptoCardSaid : Prop := Claim7.holds Tryd.pinned (.plain (OpenSpec.upto valueBinMatchesSpecSpec)) valueBinMatchesSpecUptoCard

/-- THE SECOND FORM's CARD OF 'hallmootlaw08.ValueIsRing'. -/
def valueIsRingUptoCard : Claim7 := { stood := { row := valueIsRingUptoRow, standIns := [], harness := (true, "e82ffb401c8c2b31fdcf7c58db750e7b8ff71cacee718a2ebab5cdedf0696b98"), looks := true }, kinds := [], alts := [], laidByText := true, laidKinds := [.data, .data, .data, .funcs], laidTests := true, laidLooks := .later }
def ValueIsRingUptoCardSaid : Prop := Claim7.holds Tryd.pinned (.plain (OpenSpec.upto valueIsRingSpec)) valueIsRingUptoCard

/-- THE SECOND FORM's CARD OF 'hallmootlaw08.ValueRoundIsCongruent'. -/
def valueRoundIsCongruentUptoCard : Claim7 := { stood := { row := valueRoundIsCongruentUptoRow, standIns := [], harness := (true, "e82ffb401c8c2b31fdcf7c58db750e7b8ff71cacee718a2ebab5cdedf0696b98"), looks := true }, kinds := [], alts := [], laidByText := true, laidKinds := [.data, .data, .data, .funcs], laidTests := true, laidLooks := .later }
def ValueRoundIsCongruentUptoCardSaid : Prop := Claim7.holds Tryd.pinned (.plain (OpenSpec.upto valueRoundIsCongruentSpec)) valueRoundIsCongruentUptoCard

/-- THE SECOND FORM's CARD OF 'hallmootlaw08.ValueOrderIsTotal'. -/
def valueOrderIsTotalUptoCard : Claim7 := { stood := { row := valueOrderIsTotalUptoRow, standIns := [], harness := (true, "e82ffb401c8c2b31fdcf7c58db750e7b8ff71cacee718a2ebab5cdedf0696b98"), looks := true }, kinds := [], alts := [], laidByText := true, laidKinds := [.data, .data, .data, .funcs], laidTests := true, laidLooks := .later }
def ValueOrderIsTotalUptoCardSaid : Prop := Claim7.holds Tryd.pinned (.plain (OpenSpec.upto valueOrderIsTotalSpec)) valueOrderIsTotalUptoCard

/-- THE SECOND FORM's CARD OF 'hallmootlaw08.ValueShowIsInjective'. -/
def valueShowIsInjectiveUptoCard : Claim7 := { stood := { row := valueShowIsInjectiveUptoRow, standIns := [], harness := (true, "e82ffb401c8c2b31fdcf7c58db750e7b8ff71cacee718a2ebab5cdedf0696b98"), looks := true }, kinds := [], alts := [], laidByText := true, laidKinds := [.data, .data, .data, .funcs], laidTests := true, laidLooks := .later }
def ValueShowIsInjectiveUptoCardSaid : Prop := Claim7.holds Tryd.pinned (.plain (OpenSpec.upto valueShowIsInjectiveSpec)) valueShowIsInjectiveUptoCard

/-- THE SECOND FORM's CARD OF 'hallmootlaw08.ValueStaysValid'. -/
def valueStaysValidUptoCard : Claim7 := { stood := { row := valueStaysValidUptoRow, standIns := [], harness := (true, "e82ffb401c8c2b31fdcf7c58db750e7b8ff71cacee718a2ebab5cdedf0696b98"), looks := true }, kinds := [], alts := [], laidByText := true, laidKinds := [.data, .data, .data, .funcs], laidTests := true, laidLooks := .later }
def ValueStaysValidUptoCardSaid : Prop := Claim7.holds Tryd.pinned (.plain (OpenSpec.upto valueStaysValidSpec)) valueStaysValidUptoCard
end Rows
end Go.Proofs.YtnjgcjgfnjcgdaaDoor
