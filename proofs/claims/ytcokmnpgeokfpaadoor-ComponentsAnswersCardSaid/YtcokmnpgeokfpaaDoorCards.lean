/-
  DERIVED. GIVEN WITH THE SEED: THE CARDS: each row of YtcokmnpgeokfpaaDoorRows.lean that lists a variable, with what it lists TIED to the program's text (the seventh form; the later family's looks); each row that meets fmt, with fmt's text TOLD by the authors' own Lean function (tested against real Go, not proved from fmt's source: count such statements apart). THE CARD IS WHAT COUNTS. Prove the row's statement (the work); the ties are given (YtcokmnpgeokfpaaDoorTie.lean); close each card by the builder's one call (the guide's Derived/Test/ToyasCard.lean, 'card_holds'). Laid BY PROGRAM, IN A SANDBOX (cutbox-door.mjs). By AI agents, Wed Nov 11 2026. No macro, syntax, notation, axiom, sorry.
-/
import Derived.Test.YtcokmnpgeokfpaaDoorRows
import GoSem.ClaimSeven
namespace Go.Proofs.YtcokmnpgeokfpaaDoor
namespace Rows

/-- THE TIED CARD OF 'pointcodelaw23.TagsInts'. -/
def tagsIntsCard : Claim7 := { stood := { row := tagsIntsRow, standIns := [], harness := (true, "335464804556f2e78047abfce202c1529a5aa734193ed0879504696c3ba94ecb"), looks := true }, kinds := [], alts := [], laidByText := true, laidKinds := [.data, .data, .data, .sentinel, .sentinel], laidTests := true, laidLooks := .later }
def TagsIntsCardSaid : Prop := Claim7.holds Tryd.pinned (.plain (OpenSpec.ofChange tagsIntsSpec)) tagsIntsCard

/-- THE TIED CARD OF 'pointcodelaw23.TagsTexts'. -/
def tagsTextsCard : Claim7 := { stood := { row := tagsTextsRow, standIns := [], harness := (true, "335464804556f2e78047abfce202c1529a5aa734193ed0879504696c3ba94ecb"), looks := true }, kinds := [], alts := [], laidByText := true, laidKinds := [.data, .data, .data, .sentinel, .sentinel], laidTests := true, laidLooks := .later }
def TagsTextsCardSaid : Prop := Claim7.holds Tryd.pinned (.plain (OpenSpec.ofChange tagsTextsSpec)) tagsTextsCard

/-- THE TIED CARD OF 'pointcodelaw23.TagsCodes'. -/
def tagsCodesCard : Claim7 := { stood := { row := tagsCodesRow, standIns := [], harness := (true, "335464804556f2e78047abfce202c1529a5aa734193ed0879504696c3ba94ecb"), looks := true }, kinds := [], alts := [], laidByText := true, laidKinds := [.data, .data, .data, .sentinel, .sentinel], laidTests := true, laidLooks := .later }
def TagsCodesCardSaid : Prop := Claim7.holds Tryd.pinned (.plain (OpenSpec.ofChange tagsCodesSpec)) tagsCodesCard

/-- THE TIED CARD OF 'pointcodelaw23.TagsFinds'. -/
def tagsFindsCard : Claim7 := { stood := { row := tagsFindsRow, standIns := [], harness := (true, "335464804556f2e78047abfce202c1529a5aa734193ed0879504696c3ba94ecb"), looks := true }, kinds := [], alts := [], laidByText := true, laidKinds := [.data, .data, .data, .sentinel, .sentinel], laidTests := true, laidLooks := .later }
def TagsFindsCardSaid : Prop := Claim7.holds Tryd.pinned (.plain (OpenSpec.ofChange tagsFindsSpec)) tagsFindsCard

/-- THE TIED CARD OF 'pointcodelaw28.ComponentsAnswers'. -/
def componentsAnswersCard : Claim7 := { stood := { row := componentsAnswersRow, standIns := [], harness := (true, "335464804556f2e78047abfce202c1529a5aa734193ed0879504696c3ba94ecb"), looks := true }, kinds := [], alts := [], laidByText := true, laidKinds := [.data, .data, .data, .sentinel, .sentinel], laidTests := true, laidLooks := .later }
def ComponentsAnswersCardSaid : Prop := Claim7.holds Tryd.pinned (.plain (OpenSpec.ofChange componentsAnswersSpec)) componentsAnswersCard

/-- THE TIED CARD OF 'pointcodelaw28.ComponentsCodes'. -/
def componentsCodesCard : Claim7 := { stood := { row := componentsCodesRow, standIns := [], harness := (true, "335464804556f2e78047abfce202c1529a5aa734193ed0879504696c3ba94ecb"), looks := true }, kinds := [], alts := [], laidByText := true, laidKinds := [.data, .data, .data, .sentinel, .sentinel], laidTests := true, laidLooks := .later }
def ComponentsCodesCardSaid : Prop := Claim7.holds Tryd.pinned (.plain (OpenSpec.ofChange componentsCodesSpec)) componentsCodesCard

/-- THE TIED CARD OF 'pointcodelaw28.ComponentsErrors'. -/
def componentsErrorsCard : Claim7 := { stood := { row := componentsErrorsRow, standIns := [], harness := (true, "335464804556f2e78047abfce202c1529a5aa734193ed0879504696c3ba94ecb"), looks := true }, kinds := [], alts := [], laidByText := true, laidKinds := [.data, .data, .data, .sentinel, .sentinel], laidTests := true, laidLooks := .later }
def ComponentsErrorsCardSaid : Prop := Claim7.holds Tryd.pinned (.plain (OpenSpec.ofChange componentsErrorsSpec)) componentsErrorsCard

/-- THE SECOND FORM's CARD OF 'pointcodelaw23.TagsInts'. -/
def tagsIntsUptoCard : Claim7 := { stood := { row := tagsIntsUptoRow, standIns := [], harness := (true, "335464804556f2e78047abfce202c1529a5aa734193ed0879504696c3ba94ecb"), looks := true }, kinds := [], alts := [], laidByText := true, laidKinds := [.data, .data, .data, .sentinel, .sentinel], laidTests := true, laidLooks := .later }
def TagsIntsUptoCardSaid : Prop := Claim7.holds Tryd.pinned (.plain (OpenSpec.upto tagsIntsSpec)) tagsIntsUptoCard

/-- THE SECOND FORM's CARD OF 'pointcodelaw23.TagsTexts'. -/
def tagsTextsUptoCard : Claim7 := { stood := { row := tagsTextsUptoRow, standIns := [], harness := (true, "335464804556f2e78047abfce202c1529a5aa734193ed0879504696c3ba94ecb"), looks := true }, kinds := [], alts := [], laidByText := true, laidKinds := [.data, .data, .data, .sentinel, .sentinel], laidTests := true, laidLooks := .later }
def TagsTextsUptoCardSaid : Prop := Claim7.holds Tryd.pinned (.plain (OpenSpec.upto tagsTextsSpec)) tagsTextsUptoCard

/-- THE SECOND FORM's CARD OF 'pointcodelaw23.TagsCodes'. -/
def tagsCodesUptoCard : Claim7 := { stood := { row := tagsCodesUptoRow, standIns := [], harness := (true, "335464804556f2e78047abfce202c1529a5aa734193ed0879504696c3ba94ecb"), looks := true }, kinds := [], alts := [], laidByText := true, laidKinds := [.data, .data, .data, .sentinel, .sentinel], laidTests := true, laidLooks := .later }
def TagsCodesUptoCardSaid : Prop := Claim7.holds Tryd.pinned (.plain (OpenSpec.upto tagsCodesSpec)) tagsCodesUptoCard

/-- THE SECOND FORM's CARD OF 'pointcodelaw23.TagsFinds'. -/
def tagsFindsUptoCard : Claim7 := { stood := { row := tagsFindsUptoRow, standIns := [], harness := (true, "335464804556f2e78047abfce202c1529a5aa734193ed0879504696c3ba94ecb"), looks := true }, kinds := [], alts := [], laidByText := true, laidKinds := [.data, .data, .data, .sentinel, .sentinel], laidTests := true, laidLooks := .later }
def TagsFindsUptoCardSaid : Prop := Claim7.holds Tryd.pinned (.plain (OpenSpec.upto tagsFindsSpec)) tagsFindsUptoCard

/-- THE SECOND FORM's CARD OF 'pointcodelaw28.ComponentsAnswers'. -/
def componentsAnswersUptoCard : Claim7 := { stood := { row := componentsAnswersUptoRow, standIns := [], harness := (true, "335464804556f2e78047abfce202c1529a5aa734193ed0879504696c3ba94ecb"), looks := true }, kinds := [], alts := [], laidByText := true, laidKinds := [.data, .data, .data, .sentinel, .sentinel], laidTests := true, laidLooks := .later }
def ComponentsAnswersUptoCardSaid : Prop := Claim7.holds Tryd.pinned (.plain (OpenSpec.upto componentsAnswersSpec)) componentsAnswersUptoCard

/-- THE SECOND FORM's CARD OF 'pointcodelaw28.ComponentsCodes'. -/
def componentsCodesUptoCard : Claim7 := { stood := { row := componentsCodesUptoRow, standIns := [], harness := (true, "335464804556f2e78047abfce202c1529a5aa734193ed0879504696c3ba94ecb"), looks := true }, kinds := [], alts := [], laidByText := true, laidKinds := [.data, .data, .data, .sentinel, .sentinel], laidTests := true, laidLooks := .later }
def ComponentsCodesUptoCardSaid : Prop := Claim7.holds Tryd.pinned (.plain (OpenSpec.upto componentsCodesSpec)) componentsCodesUptoCard

/-- THE SECOND FORM's CARD OF 'pointcodelaw28.ComponentsErrors'. -/
def componentsErrorsUptoCard : Claim7 := { stood := { row := componentsErrorsUptoRow, standIns := [], harness := (true, "335464804556f2e78047abfce202c1529a5aa734193ed0879504696c3ba94ecb"), looks := true }, kinds := [], alts := [], laidByText := true, laidKinds := [.data, .data, .data, .sentinel, .sentinel], laidTests := true, laidLooks := .later }
def ComponentsErrorsUptoCardSaid : Prop := Claim7.holds Tryd.pinned (.plain (OpenSpec.upto componentsErrorsSpec)) componentsErrorsUptoCard
end Rows
end Go.Proofs.YtcokmnpgeokfpaaDoor
