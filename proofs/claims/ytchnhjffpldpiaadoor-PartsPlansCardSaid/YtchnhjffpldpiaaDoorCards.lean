/-
  DERIVED. GIVEN WITH THE SEED: THE CARDS: each row of YtchnhjffpldpiaaDoorRows.lean that lists a variable, with what it lists TIED to the program's text (the seventh form; the later family's looks); each row that meets fmt, with fmt's text TOLD by the authors' own Lean function (tested against real Go, not proved from fmt's source: count such statements apart). THE CARD IS WHAT COUNTS. Prove the row's statement (the work); the ties are given (YtchnhjffpldpiaaDoorTie.lean); close each card by the builder's one call (the guide's Derived/Test/ToyasCard.lean, 'card_holds'). Laid BY PROGRAM, IN A SANDBOX (cutbox-door.mjs). By AI agents, Wed Nov 11 2026. No macro, syntax, notation, axiom, sorry.
-/
import Derived.Test.YtchnhjffpldpiaaDoorRows
import GoSem.ClaimSeven
namespace Go.Proofs.YtchnhjffpldpiaaDoor
namespace Rows

/-- THE TIED CARD OF 'swashplatelaw09.PartsCounted'. -/
def partsCountedCard : Claim7 := { stood := { row := partsCountedRow, standIns := [], harness := (true, "decbb1076c05a02970ca65a2b86660012d79a315ada46e361fef38afae3dbf1f"), looks := false }, kinds := [], alts := [], laidByText := true, laidKinds := [.data, .data], laidTests := true, laidLooks := .later }
def PartsCountedCardSaid : Prop := Claim7.holds Tryd.pinned (.plain (OpenSpec.ofChange partsCountedSpec)) partsCountedCard

/-- THE TIED CARD OF 'swashplatelaw09.PartsLongest'. -/
def partsLongestCard : Claim7 := { stood := { row := partsLongestRow, standIns := [], harness := (true, "decbb1076c05a02970ca65a2b86660012d79a315ada46e361fef38afae3dbf1f"), looks := false }, kinds := [], alts := [], laidByText := true, laidKinds := [.data, .data], laidTests := true, laidLooks := .later }
def PartsLongestCardSaid : Prop := Claim7.holds Tryd.pinned (.plain (OpenSpec.ofChange partsLongestSpec)) partsLongestCard

/-- THE TIED CARD OF 'swashplatelaw09.PartsLives'. -/
def partsLivesCard : Claim7 := { stood := { row := partsLivesRow, standIns := [], harness := (true, "decbb1076c05a02970ca65a2b86660012d79a315ada46e361fef38afae3dbf1f"), looks := false }, kinds := [], alts := [], laidByText := true, laidKinds := [.data, .data], laidTests := true, laidLooks := .later }
def PartsLivesCardSaid : Prop := Claim7.holds Tryd.pinned (.plain (OpenSpec.ofChange partsLivesSpec)) partsLivesCard

/-- THE TIED CARD OF 'swashplatelaw09.PartsChecks'. -/
def partsChecksCard : Claim7 := { stood := { row := partsChecksRow, standIns := [], harness := (true, "decbb1076c05a02970ca65a2b86660012d79a315ada46e361fef38afae3dbf1f"), looks := false }, kinds := [], alts := [], laidByText := true, laidKinds := [.data, .data], laidTests := true, laidLooks := .later }
def PartsChecksCardSaid : Prop := Claim7.holds Tryd.pinned (.plain (OpenSpec.ofChange partsChecksSpec)) partsChecksCard

/-- THE TIED CARD OF 'swashplatelaw09.PartsLeft'. -/
def partsLeftCard : Claim7 := { stood := { row := partsLeftRow, standIns := [], harness := (true, "decbb1076c05a02970ca65a2b86660012d79a315ada46e361fef38afae3dbf1f"), looks := false }, kinds := [], alts := [], laidByText := true, laidKinds := [.data, .data], laidTests := true, laidLooks := .later }
def PartsLeftCardSaid : Prop := Claim7.holds Tryd.pinned (.plain (OpenSpec.ofChange partsLeftSpec)) partsLeftCard

/-- THE TIED CARD OF 'swashplatelaw09.PartsFlights'. -/
def partsFlightsCard : Claim7 := { stood := { row := partsFlightsRow, standIns := [], harness := (true, "decbb1076c05a02970ca65a2b86660012d79a315ada46e361fef38afae3dbf1f"), looks := false }, kinds := [], alts := [], laidByText := true, laidKinds := [.data, .data], laidTests := true, laidLooks := .later }
def PartsFlightsCardSaid : Prop := Claim7.holds Tryd.pinned (.plain (OpenSpec.ofChange partsFlightsSpec)) partsFlightsCard

/-- THE TIED CARD OF 'swashplatelaw09.PartsComplete'. -/
def partsCompleteCard : Claim7 := { stood := { row := partsCompleteRow, standIns := [], harness := (true, "decbb1076c05a02970ca65a2b86660012d79a315ada46e361fef38afae3dbf1f"), looks := false }, kinds := [], alts := [], laidByText := true, laidKinds := [.data, .data], laidTests := true, laidLooks := .later }
def PartsCompleteCardSaid : Prop := Claim7.holds Tryd.pinned (.plain (OpenSpec.ofChange partsCompleteSpec)) partsCompleteCard

/-- THE TIED CARD OF 'swashplatelaw09.PartsSwaps'. -/
def partsSwapsCard : Claim7 := { stood := { row := partsSwapsRow, standIns := [], harness := (true, "decbb1076c05a02970ca65a2b86660012d79a315ada46e361fef38afae3dbf1f"), looks := false }, kinds := [], alts := [], laidByText := true, laidKinds := [.data, .data], laidTests := true, laidLooks := .later }
def PartsSwapsCardSaid : Prop := Claim7.holds Tryd.pinned (.plain (OpenSpec.ofChange partsSwapsSpec)) partsSwapsCard

/-- THE TIED CARD OF 'swashplatelaw09.PartsCycles'. -/
def partsCyclesCard : Claim7 := { stood := { row := partsCyclesRow, standIns := [], harness := (true, "decbb1076c05a02970ca65a2b86660012d79a315ada46e361fef38afae3dbf1f"), looks := false }, kinds := [], alts := [], laidByText := true, laidKinds := [.data, .data], laidTests := true, laidLooks := .later }
def PartsCyclesCardSaid : Prop := Claim7.holds Tryd.pinned (.plain (OpenSpec.ofChange partsCyclesSpec)) partsCyclesCard

/-- THE TIED CARD OF 'swashplatelaw09.PartsDamage'. -/
def partsDamageCard : Claim7 := { stood := { row := partsDamageRow, standIns := [], harness := (true, "decbb1076c05a02970ca65a2b86660012d79a315ada46e361fef38afae3dbf1f"), looks := false }, kinds := [], alts := [], laidByText := true, laidKinds := [.data, .data], laidTests := true, laidLooks := .later }
def PartsDamageCardSaid : Prop := Claim7.holds Tryd.pinned (.plain (OpenSpec.ofChange partsDamageSpec)) partsDamageCard

/-- THE TIED CARD OF 'swashplatelaw09.PartsPlans'. -/
def partsPlansCard : Claim7 := { stood := { row := partsPlansRow, standIns := [], harness := (true, "decbb1076c05a02970ca65a2b86660012d79a315ada46e361fef38afae3dbf1f"), looks := false }, kinds := [], alts := [], laidByText := true, laidKinds := [.data, .data], laidTests := true, laidLooks := .later }
def PartsPlansCardSaid : Prop := Claim7.holds Tryd.pinned (.plain (OpenSpec.ofChange partsPlansSpec)) partsPlansCard

/-- THE TIED CARD OF 'swashplatelaw09.PartsFewest'. -/
def partsFewestCard : Claim7 := { stood := { row := partsFewestRow, standIns := [], harness := (true, "decbb1076c05a02970ca65a2b86660012d79a315ada46e361fef38afae3dbf1f"), looks := false }, kinds := [], alts := [], laidByText := true, laidKinds := [.data, .data], laidTests := true, laidLooks := .later }
def PartsFewestCardSaid : Prop := Claim7.holds Tryd.pinned (.plain (OpenSpec.ofChange partsFewestSpec)) partsFewestCard

/-- THE TIED CARD OF 'swashplatelaw09.PartsPages'. -/
def partsPagesCard : Claim7 := { stood := { row := partsPagesRow, standIns := [], harness := (true, "decbb1076c05a02970ca65a2b86660012d79a315ada46e361fef38afae3dbf1f"), looks := false }, kinds := [], alts := [], laidByText := true, laidKinds := [.data, .data], laidTests := true, laidLooks := .later }
def PartsPagesCardSaid : Prop := Claim7.holds Tryd.pinned (.plain (OpenSpec.ofChange partsPagesSpec)) partsPagesCard

/-- THE TIED CARD OF 'swashplatelaw09.PartsPaged'. -/
def partsPagedCard : Claim7 := { stood := { row := partsPagedRow, standIns := [], harness := (true, "decbb1076c05a02970ca65a2b86660012d79a315ada46e361fef38afae3dbf1f"), looks := false }, kinds := [], alts := [], laidByText := true, laidKinds := [.data, .data], laidTests := true, laidLooks := .later }
def PartsPagedCardSaid : Prop := Claim7.holds Tryd.pinned (.plain (OpenSpec.ofChange partsPagedSpec)) partsPagedCard

/-- THE TIED CARD OF 'swashplatelaw09.PartsWorn'. -/
def partsWornCard : Claim7 := { stood := { row := partsWornRow, standIns := [], harness := (true, "decbb1076c05a02970ca65a2b86660012d79a315ada46e361fef38afae3dbf1f"), looks := false }, kinds := [], alts := [], laidByText := true, laidKinds := [.data, .data], laidTests := true, laidLooks := .later }
def PartsWornCardSaid : Prop := Claim7.holds Tryd.pinned (.plain (OpenSpec.ofChange partsWornSpec)) partsWornCard

/-- THE SECOND FORM's CARD OF 'swashplatelaw09.PartsCounted'. -/
def partsCountedUptoCard : Claim7 := { stood := { row := partsCountedUptoRow, standIns := [], harness := (true, "decbb1076c05a02970ca65a2b86660012d79a315ada46e361fef38afae3dbf1f"), looks := false }, kinds := [], alts := [], laidByText := true, laidKinds := [.data, .data], laidTests := true, laidLooks := .later }
def PartsCountedUptoCardSaid : Prop := Claim7.holds Tryd.pinned (.plain (OpenSpec.upto partsCountedSpec)) partsCountedUptoCard

/-- THE SECOND FORM's CARD OF 'swashplatelaw09.PartsLongest'. -/
def partsLongestUptoCard : Claim7 := { stood := { row := partsLongestUptoRow, standIns := [], harness := (true, "decbb1076c05a02970ca65a2b86660012d79a315ada46e361fef38afae3dbf1f"), looks := false }, kinds := [], alts := [], laidByText := true, laidKinds := [.data, .data], laidTests := true, laidLooks := .later }
def PartsLongestUptoCardSaid : Prop := Claim7.holds Tryd.pinned (.plain (OpenSpec.upto partsLongestSpec)) partsLongestUptoCard

/-- THE SECOND FORM's CARD OF 'swashplatelaw09.PartsLives'. -/
def partsLivesUptoCard : Claim7 := { stood := { row := partsLivesUptoRow, standIns := [], harness := (true, "decbb1076c05a02970ca65a2b86660012d79a315ada46e361fef38afae3dbf1f"), looks := false }, kinds := [], alts := [], laidByText := true, laidKinds := [.data, .data], laidTests := true, laidLooks := .later }
def PartsLivesUptoCardSaid : Prop := Claim7.holds Tryd.pinned (.plain (OpenSpec.upto partsLivesSpec)) partsLivesUptoCard

/-- THE SECOND FORM's CARD OF 'swashplatelaw09.PartsChecks'. -/
def partsChecksUptoCard : Claim7 := { stood := { row := partsChecksUptoRow, standIns := [], harness := (true, "decbb1076c05a02970ca65a2b86660012d79a315ada46e361fef38afae3dbf1f"), looks := false }, kinds := [], alts := [], laidByText := true, laidKinds := [.data, .data], laidTests := true, laidLooks := .later }
def PartsChecksUptoCardSaid : Prop := Claim7.holds Tryd.pinned (.plain (OpenSpec.upto partsChecksSpec)) partsChecksUptoCard

/-- THE SECOND FORM's CARD OF 'swashplatelaw09.PartsLeft'. -/
def partsLeftUptoCard : Claim7 := { stood := { row := partsLeftUptoRow, standIns := [], harness := (true, "decbb1076c05a02970ca65a2b86660012d79a315ada46e361fef38afae3dbf1f"), looks := false }, kinds := [], alts := [], laidByText := true, laidKinds := [.data, .data], laidTests := true, laidLooks := .later }
def PartsLeftUptoCardSaid : Prop := Claim7.holds Tryd.pinned (.plain (OpenSpec.upto partsLeftSpec)) partsLeftUptoCard

/-- THE SECOND FORM's CARD OF 'swashplatelaw09.PartsFlights'. -/
def partsFlightsUptoCard : Claim7 := { stood := { row := partsFlightsUptoRow, standIns := [], harness := (true, "decbb1076c05a02970ca65a2b86660012d79a315ada46e361fef38afae3dbf1f"), looks := false }, kinds := [], alts := [], laidByText := true, laidKinds := [.data, .data], laidTests := true, laidLooks := .later }
def PartsFlightsUptoCardSaid : Prop := Claim7.holds Tryd.pinned (.plain (OpenSpec.upto partsFlightsSpec)) partsFlightsUptoCard

/-- THE SECOND FORM's CARD OF 'swashplatelaw09.PartsComplete'. -/
def partsCompleteUptoCard : Claim7 := { stood := { row := partsCompleteUptoRow, standIns := [], harness := (true, "decbb1076c05a02970ca65a2b86660012d79a315ada46e361fef38afae3dbf1f"), looks := false }, kinds := [], alts := [], laidByText := true, laidKinds := [.data, .data], laidTests := true, laidLooks := .later }
def PartsCompleteUptoCardSaid : Prop := Claim7.holds Tryd.pinned (.plain (OpenSpec.upto partsCompleteSpec)) partsCompleteUptoCard

/-- THE SECOND FORM's CARD OF 'swashplatelaw09.PartsSwaps'. -/
def partsSwapsUptoCard : Claim7 := { stood := { row := partsSwapsUptoRow, standIns := [], harness := (true, "decbb1076c05a02970ca65a2b86660012d79a315ada46e361fef38afae3dbf1f"), looks := false }, kinds := [], alts := [], laidByText := true, laidKinds := [.data, .data], laidTests := true, laidLooks := .later }
def PartsSwapsUptoCardSaid : Prop := Claim7.holds Tryd.pinned (.plain (OpenSpec.upto partsSwapsSpec)) partsSwapsUptoCard

/-- THE SECOND FORM's CARD OF 'swashplatelaw09.PartsCycles'. -/
def partsCyclesUptoCard : Claim7 := { stood := { row := partsCyclesUptoRow, standIns := [], harness := (true, "decbb1076c05a02970ca65a2b86660012d79a315ada46e361fef38afae3dbf1f"), looks := false }, kinds := [], alts := [], laidByText := true, laidKinds := [.data, .data], laidTests := true, laidLooks := .later }
def PartsCyclesUptoCardSaid : Prop := Claim7.holds Tryd.pinned (.plain (OpenSpec.upto partsCyclesSpec)) partsCyclesUptoCard

/-- THE SECOND FORM's CARD OF 'swashplatelaw09.PartsDamage'. -/
def partsDamageUptoCard : Claim7 := { stood := { row := partsDamageUptoRow, standIns := [], harness := (true, "decbb1076c05a02970ca65a2b86660012d79a315ada46e361fef38afae3dbf1f"), looks := false }, kinds := [], alts := [], laidByText := true, laidKinds := [.data, .data], laidTests := true, laidLooks := .later }
def PartsDamageUptoCardSaid : Prop := Claim7.holds Tryd.pinned (.plain (OpenSpec.upto partsDamageSpec)) partsDamageUptoCard

/-- THE SECOND FORM's CARD OF 'swashplatelaw09.PartsPlans'. -/
def partsPlansUptoCard : Claim7 := { stood := { row := partsPlansUptoRow, standIns := [], harness := (true, "decbb1076c05a02970ca65a2b86660012d79a315ada46e361fef38afae3dbf1f"), looks := false }, kinds := [], alts := [], laidByText := true, laidKinds := [.data, .data], laidTests := true, laidLooks := .later }
def PartsPlansUptoCardSaid : Prop := Claim7.holds Tryd.pinned (.plain (OpenSpec.upto partsPlansSpec)) partsPlansUptoCard

/-- THE SECOND FORM's CARD OF 'swashplatelaw09.PartsFewest'. -/
def partsFewestUptoCard : Claim7 := { stood := { row := partsFewestUptoRow, standIns := [], harness := (true, "decbb1076c05a02970ca65a2b86660012d79a315ada46e361fef38afae3dbf1f"), looks := false }, kinds := [], alts := [], laidByText := true, laidKinds := [.data, .data], laidTests := true, laidLooks := .later }
def PartsFewestUptoCardSaid : Prop := Claim7.holds Tryd.pinned (.plain (OpenSpec.upto partsFewestSpec)) partsFewestUptoCard

/-- THE SECOND FORM's CARD OF 'swashplatelaw09.PartsPages'. -/
def partsPagesUptoCard : Claim7 := { stood := { row := partsPagesUptoRow, standIns := [], harness := (true, "decbb1076c05a02970ca65a2b86660012d79a315ada46e361fef38afae3dbf1f"), looks := false }, kinds := [], alts := [], laidByText := true, laidKinds := [.data, .data], laidTests := true, laidLooks := .later }
def PartsPagesUptoCardSaid : Prop := Claim7.holds Tryd.pinned (.plain (OpenSpec.upto partsPagesSpec)) partsPagesUptoCard

/-- THE SECOND FORM's CARD OF 'swashplatelaw09.PartsPaged'. -/
def partsPagedUptoCard : Claim7 := { stood := { row := partsPagedUptoRow, standIns := [], harness := (true, "decbb1076c05a02970ca65a2b86660012d79a315ada46e361fef38afae3dbf1f"), looks := false }, kinds := [], alts := [], laidByText := true, laidKinds := [.data, .data], laidTests := true, laidLooks := .later }
def PartsPagedUptoCardSaid : Prop := Claim7.holds Tryd.pinned (.plain (OpenSpec.upto partsPagedSpec)) partsPagedUptoCard

/-- THE SECOND FORM's CARD OF 'swashplatelaw09.PartsWorn'. -/
def partsWornUptoCard : Claim7 := { stood := { row := partsWornUptoRow, standIns := [], harness := (true, "decbb1076c05a02970ca65a2b86660012d79a315ada46e361fef38afae3dbf1f"), looks := false }, kinds := [], alts := [], laidByText := true, laidKinds := [.data, .data], laidTests := true, laidLooks := .later }
def PartsWornUptoCardSaid : Prop := Claim7.holds Tryd.pinned (.plain (OpenSpec.upto partsWornSpec)) partsWornUptoCard
end Rows
end Go.Proofs.YtchnhjffpldpiaaDoor
