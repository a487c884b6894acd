/-
  DERIVED. GIVEN WITH THE SEED: THE CARDS: each row of YtfhmdeamhmjddaaDoorRows.lean that lists a variable, with what it lists TIED to the program's text (the seventh form; the later family's looks); each row that meets fmt, with fmt's text TOLD by the authors' own Lean function (tested against real Go, not proved from fmt's source: count such statements apart). THE CARD IS WHAT COUNTS. Prove the row's statement (the work); the ties are given (YtfhmdeamhmjddaaDoorTie.lean); close each card by the builder's one call (the guide's Derived/Test/ToyasCard.lean, 'card_holds'). Laid BY PROGRAM, IN A SANDBOX (cutbox-door.mjs). By AI agents, Wed Nov 11 2026. No macro, syntax, notation, axiom, sorry.
-/
import Derived.Test.YtfhmdeamhmjddaaDoorRows
import GoSem.ClaimSeven
namespace Go.Proofs.YtfhmdeamhmjddaaDoor
namespace Rows

/-- THE TIED CARD OF 'chatelainelaw05.PathParses'. -/
def pathParsesCard : Claim7 := { stood := { row := pathParsesRow, standIns := [], harness := (true, "38b1d7e5dea76d1d6b83366c45fc7d6e169c4ea37a9a222f3bcf3aa080369d2f"), looks := true }, kinds := [], alts := [], laidByText := true, laidKinds := [.data, .handle, .pinned], laidTests := true, laidLooks := .later }
def PathParsesCardSaid : Prop := Claim7.holds Tryd.pinned (.plain (OpenSpec.ofChange pathParsesSpec)) pathParsesCard

/-- THE TIED CARD OF 'chatelainelaw06.RouteOne'. -/
def routeOneCard : Claim7 := { stood := { row := routeOneRow, standIns := [], harness := (true, "38b1d7e5dea76d1d6b83366c45fc7d6e169c4ea37a9a222f3bcf3aa080369d2f"), looks := true }, kinds := [], alts := [], laidByText := true, laidKinds := [.data, .handle, .pinned], laidTests := true, laidLooks := .later }
def RouteOneCardSaid : Prop := Claim7.holds Tryd.pinned (.plain (OpenSpec.ofChange routeOneSpec)) routeOneCard

/-- THE TIED CARD OF 'chatelainelaw05.PathOrder'. -/
def pathOrderCard : Claim7 := { stood := { row := pathOrderRow, standIns := [], harness := (true, "38b1d7e5dea76d1d6b83366c45fc7d6e169c4ea37a9a222f3bcf3aa080369d2f"), looks := true }, kinds := [], alts := [], laidByText := true, laidKinds := [.data, .handle, .pinned], laidTests := true, laidLooks := .later }
def PathOrderCardSaid : Prop := Claim7.holds Tryd.pinned (.plain (OpenSpec.ofChange pathOrderSpec)) pathOrderCard

/-- THE TIED CARD OF 'chatelainelaw05.PathLines'. -/
def pathLinesCard : Claim7 := { stood := { row := pathLinesRow, standIns := [], harness := (true, "38b1d7e5dea76d1d6b83366c45fc7d6e169c4ea37a9a222f3bcf3aa080369d2f"), looks := true }, kinds := [], alts := [], laidByText := true, laidKinds := [.data, .handle, .pinned], laidTests := true, laidLooks := .later }
def PathLinesCardSaid : Prop := Claim7.holds Tryd.pinned (.plain (OpenSpec.ofChange pathLinesSpec)) pathLinesCard

/-- THE TIED CARD OF 'chatelainelaw06.RouteFinds'. -/
def routeFindsCard : Claim7 := { stood := { row := routeFindsRow, standIns := [], harness := (true, "38b1d7e5dea76d1d6b83366c45fc7d6e169c4ea37a9a222f3bcf3aa080369d2f"), looks := true }, kinds := [], alts := [], laidByText := true, laidKinds := [.data, .handle, .pinned], laidTests := true, laidLooks := .later }
def RouteFindsCardSaid : Prop := Claim7.holds Tryd.pinned (.plain (OpenSpec.ofChange routeFindsSpec)) routeFindsCard

/-- THE TIED CARD OF 'chatelainelaw05.PathMakes'. -/
def pathMakesCard : Claim7 := { stood := { row := pathMakesRow, standIns := [], harness := (true, "38b1d7e5dea76d1d6b83366c45fc7d6e169c4ea37a9a222f3bcf3aa080369d2f"), looks := true }, kinds := [], alts := [], laidByText := true, laidKinds := [.data, .handle, .pinned], laidTests := true, laidLooks := .later }
def PathMakesCardSaid : Prop := Claim7.holds Tryd.pinned (.plain (OpenSpec.ofChange pathMakesSpec)) pathMakesCard

/-- THE TIED CARD OF 'chatelainelaw05.PathUps'. -/
def pathUpsCard : Claim7 := { stood := { row := pathUpsRow, standIns := [], harness := (true, "38b1d7e5dea76d1d6b83366c45fc7d6e169c4ea37a9a222f3bcf3aa080369d2f"), looks := true }, kinds := [], alts := [], laidByText := true, laidKinds := [.data, .handle, .pinned], laidTests := true, laidLooks := .later }
def PathUpsCardSaid : Prop := Claim7.holds Tryd.pinned (.plain (OpenSpec.ofChange pathUpsSpec)) pathUpsCard

/-- THE SECOND FORM's CARD OF 'chatelainelaw05.PathParses'. -/
def pathParsesUptoCard : Claim7 := { stood := { row := pathParsesUptoRow, standIns := [], harness := (true, "38b1d7e5dea76d1d6b83366c45fc7d6e169c4ea37a9a222f3bcf3aa080369d2f"), looks := true }, kinds := [], alts := [], laidByText := true, laidKinds := [.data, .handle, .pinned], laidTests := true, laidLooks := .later }
def PathParsesUptoCardSaid : Prop := Claim7.holds Tryd.pinned (.plain (OpenSpec.upto pathParsesSpec)) pathParsesUptoCard

/-- THE SECOND FORM's CARD OF 'chatelainelaw06.RouteOne'. -/
def routeOneUptoCard : Claim7 := { stood := { row := routeOneUptoRow, standIns := [], harness := (true, "38b1d7e5dea76d1d6b83366c45fc7d6e169c4ea37a9a222f3bcf3aa080369d2f"), looks := true }, kinds := [], alts := [], laidByText := true, laidKinds := [.data, .handle, .pinned], laidTests := true, laidLooks := .later }
def RouteOneUptoCardSaid : Prop := Claim7.holds Tryd.pinned (.plain (OpenSpec.upto routeOneSpec)) routeOneUptoCard

/-- THE SECOND FORM's CARD OF 'chatelainelaw05.PathOrder'. -/
def pathOrderUptoCard : Claim7 := { stood := { row := pathOrderUptoRow, standIns := [], harness := (true, "38b1d7e5dea76d1d6b83366c45fc7d6e169c4ea37a9a222f3bcf3aa080369d2f"), looks := true }, kinds := [], alts := [], laidByText := true, laidKinds := [.data, .handle, .pinned], laidTests := true, laidLooks := .later }
def PathOrderUptoCardSaid : Prop := Claim7.holds Tryd.pinned (.plain (OpenSpec.upto pathOrderSpec)) pathOrderUptoCard

/-- THE SECOND FORM's CARD OF 'chatelainelaw05.PathLines'. -/
def pathLinesUptoCard : Claim7 := { stood := { row := pathLinesUptoRow, standIns := [], harness := (true, "38b1d7e5dea76d1d6b83366c45fc7d6e169c4ea37a9a222f3bcf3aa080369d2f"), looks := true }, kinds := [], alts := [], laidByText := true, laidKinds := [.data, .handle, .pinned], laidTests := true, laidLooks := .later }
def PathLinesUptoCardSaid : Prop := Claim7.holds Tryd.pinned (.plain (OpenSpec.upto pathLinesSpec)) pathLinesUptoCard

/-- THE SECOND FORM's CARD OF 'chatelainelaw06.RouteFinds'. -/
def routeFindsUptoCard : Claim7 := { stood := { row := routeFindsUptoRow, standIns := [], harness := (true, "38b1d7e5dea76d1d6b83366c45fc7d6e169c4ea37a9a222f3bcf3aa080369d2f"), looks := true }, kinds := [], alts := [], laidByText := true, laidKinds := [.data, .handle, .pinned], laidTests := true, laidLooks := .later }
def RouteFindsUptoCardSaid : Prop := Claim7.holds Tryd.pinned (.plain (OpenSpec.upto routeFindsSpec)) routeFindsUptoCard

/-- THE SECOND FORM's CARD OF 'chatelainelaw05.PathMakes'. -/
def pathMakesUptoCard : Claim7 := { stood := { row := pathMakesUptoRow, standIns := [], harness := (true, "38b1d7e5dea76d1d6b83366c45fc7d6e169c4ea37a9a222f3bcf3aa080369d2f"), looks := true }, kinds := [], alts := [], laidByText := true, laidKinds := [.data, .handle, .pinned], laidTests := true, laidLooks := .later }
def PathMakesUptoCardSaid : Prop := Claim7.holds Tryd.pinned (.plain (OpenSpec.upto pathMakesSpec)) pathMakesUptoCard

/-- THE SECOND FORM's CARD OF 'chatelainelaw05.PathUps'. -/
def pathUpsUptoCard : Claim7 := { stood := { row := pathUpsUptoRow, standIns := [], harness := (true, "38b1d7e5dea76d1d6b83366c45fc7d6e169c4ea37a9a222f3bcf3aa080369d2f"), looks := true }, kinds := [], alts := [], laidByText := true, laidKinds := [.data, .handle, .pinned], laidTests := true, laidLooks := .later }
def PathUpsUptoCardSaid : Prop := Claim7.holds Tryd.pinned (.plain (OpenSpec.upto pathUpsSpec)) pathUpsUptoCard
end Rows
end Go.Proofs.YtfhmdeamhmjddaaDoor
