/-
  NARROWER THAN 'FOR EVERY INPUT', by the rows' own cells (each row's printed sentence says how): PartsCounted: laid · PartsLongest: laid · PartsLives: laid · PartsChecks: laid · PartsLeft: laid · PartsFlights: laid · PartsComplete: laid · PartsSwaps: laid · PartsCycles: laid · PartsDamage: laid · PartsPlans: laid · PartsFewest: laid · PartsPages: laid · PartsPaged: laid · PartsWorn: laid.
  DERIVED. THE GIVEN ROWS OF THIS SEAT. 15 by the template 'for every input the law returns true; each argument reads behind the call as it read before'; 0 by the template 'total and deterministic' (their statements: YtchnhjffpldpiaaDoorTotals.lean).
  GIVEN WITH THE SEED: the statements are not yours to turn. If you find one false, say at which input.
  Laid BY PROGRAM, IN A SANDBOX (cutbox-rows.mjs): the forced cells as the released guide's own fill.sh prints them over the translation 70ce516ce4397f99… (all of the seat's roots in one cut). By AI agents, Wed Nov 11 2026. No macro, syntax, notation, axiom, sorry.
-/
import Derived.Test.YtchnhjffpldpiaaDoorChecked
import GoSem.Claim
import GoSem.ClaimJoined
import GoSem.ClaimMapViews
import Derived.JoinedTies
import Derived.KernelRfl
namespace Go.Proofs.YtchnhjffpldpiaaDoor
/- THE CELL 'sum', in the pinned program and in every row, IS THE sha256 OF THE DUMP (.gsa) THAT YtchnhjffpldpiaaDoorProg.lean LOADS. Nothing in Lean hashes anything: it is a label: what it is worth is what the hold of that sum in a sandbox is worth. -/
noncomputable def Tryd.pinned : Pinned := { name := "ytchnhjffpldpiaadoor", sum := "70ce516ce4397f997a5fc2406fdbcddbc9f194304b3b18055d0f2b2c258c25b8", checked := Tryd.checked }
namespace Rows
def none {H : Type} : Left H := { results := [], args := [] }

/- WHAT THE LISTED PACKAGE-LEVEL VARIABLES READ AS WHEN THE CALL BEGINS. Each datum BY PROGRAM (the guide's laid-datum.mjs) off the statement by which the dump's own 'gosem.cut.vars' lays the variable. In a bare row this is a premise. The card (YtchnhjffpldpiaaDoorCards.lean) ties it to the program's text. -/
def laid_swashplate_parts_store {H : Type} : DataW H := .agg [.lit (.int .i64 (-1)), .lit (.int .i64 (-1))]
def laid_swashplate_parts_scrap {H : Type} : DataW H := .agg [.lit (.int .i64 (-2)), .lit (.int .i64 (-2))]

/-- 'swashplatelaw09.PartsCounted': WHATEVER THE INPUT: true; the input reads as it did. -/
def partsCountedSpec : ChangeSpec := { name := "partsCounted", fn := fun _ => fun
  | [d1, d2] => { results := [.lit (.bool true)], args := [d1, d2] }
  | _ => none }
def partsCountedRow : OpenClaim := { program := "ytchnhjffpldpiaadoor", sum := "70ce516ce4397f997a5fc2406fdbcddbc9f194304b3b18055d0f2b2c258c25b8", func := "swashplate/swashplatelaw09.PartsCounted", spec := "partsCounted", unfollowed := true, recurses := true, named := ["swashplate/parts.store", "swashplate/parts.scrap"], apart := false, laid := [("swashplate/parts.store", laid_swashplate_parts_store), ("swashplate/parts.scrap", laid_swashplate_parts_scrap)] }
def PartsCountedSaid : Prop := partsCountedRow.holds Tryd.pinned (OpenSpec.ofChange partsCountedSpec)

/-- ITS FALSE NEIGHBOUR: 'it returns false'. Refute it at one input. -/
def partsCountedWrong : ChangeSpec := { name := "partsCounted", fn := fun _ => fun
  | [d1, d2] => { results := [.lit (.bool false)], args := [d1, d2] }
  | _ => none }
def PartsCountedWrongFalsely : Prop := partsCountedRow.holds Tryd.pinned (OpenSpec.ofChange partsCountedWrong)

/-- 'swashplatelaw09.PartsLongest': WHATEVER THE INPUT: true; the input reads as it did. -/
def partsLongestSpec : ChangeSpec := { name := "partsLongest", fn := fun _ => fun
  | [d1, d2, d3] => { results := [.lit (.bool true)], args := [d1, d2, d3] }
  | _ => none }
def partsLongestRow : OpenClaim := { program := "ytchnhjffpldpiaadoor", sum := "70ce516ce4397f997a5fc2406fdbcddbc9f194304b3b18055d0f2b2c258c25b8", func := "swashplate/swashplatelaw09.PartsLongest", spec := "partsLongest", unfollowed := true, recurses := true, named := ["swashplate/parts.store", "swashplate/parts.scrap"], apart := false, laid := [("swashplate/parts.store", laid_swashplate_parts_store), ("swashplate/parts.scrap", laid_swashplate_parts_scrap)] }
def PartsLongestSaid : Prop := partsLongestRow.holds Tryd.pinned (OpenSpec.ofChange partsLongestSpec)

/-- ITS FALSE NEIGHBOUR: 'it returns false'. Refute it at one input. -/
def partsLongestWrong : ChangeSpec := { name := "partsLongest", fn := fun _ => fun
  | [d1, d2, d3] => { results := [.lit (.bool false)], args := [d1, d2, d3] }
  | _ => none }
def PartsLongestWrongFalsely : Prop := partsLongestRow.holds Tryd.pinned (OpenSpec.ofChange partsLongestWrong)

/-- 'swashplatelaw09.PartsLives': WHATEVER THE INPUT: true; the input reads as it did. -/
def partsLivesSpec : ChangeSpec := { name := "partsLives", fn := fun _ => fun
  | [d1, d2] => { results := [.lit (.bool true)], args := [d1, d2] }
  | _ => none }
def partsLivesRow : OpenClaim := { program := "ytchnhjffpldpiaadoor", sum := "70ce516ce4397f997a5fc2406fdbcddbc9f194304b3b18055d0f2b2c258c25b8", func := "swashplate/swashplatelaw09.PartsLives", spec := "partsLives", unfollowed := true, recurses := true, named := ["swashplate/parts.store", "swashplate/parts.scrap"], apart := false, laid := [("swashplate/parts.store", laid_swashplate_parts_store), ("swashplate/parts.scrap", laid_swashplate_parts_scrap)] }
def PartsLivesSaid : Prop := partsLivesRow.holds Tryd.pinned (OpenSpec.ofChange partsLivesSpec)

/-- ITS FALSE NEIGHBOUR: 'it returns false'. Refute it at one input. -/
def partsLivesWrong : ChangeSpec := { name := "partsLives", fn := fun _ => fun
  | [d1, d2] => { results := [.lit (.bool false)], args := [d1, d2] }
  | _ => none }
def PartsLivesWrongFalsely : Prop := partsLivesRow.holds Tryd.pinned (OpenSpec.ofChange partsLivesWrong)

/-- 'swashplatelaw09.PartsChecks': WHATEVER THE INPUT: true; the input reads as it did. -/
def partsChecksSpec : ChangeSpec := { name := "partsChecks", fn := fun _ => fun
  | [d1, d2] => { results := [.lit (.bool true)], args := [d1, d2] }
  | _ => none }
def partsChecksRow : OpenClaim := { program := "ytchnhjffpldpiaadoor", sum := "70ce516ce4397f997a5fc2406fdbcddbc9f194304b3b18055d0f2b2c258c25b8", func := "swashplate/swashplatelaw09.PartsChecks", spec := "partsChecks", unfollowed := true, recurses := true, named := ["swashplate/parts.store", "swashplate/parts.scrap"], apart := false, laid := [("swashplate/parts.store", laid_swashplate_parts_store), ("swashplate/parts.scrap", laid_swashplate_parts_scrap)] }
def PartsChecksSaid : Prop := partsChecksRow.holds Tryd.pinned (OpenSpec.ofChange partsChecksSpec)

/-- ITS FALSE NEIGHBOUR: 'it returns false'. Refute it at one input. -/
def partsChecksWrong : ChangeSpec := { name := "partsChecks", fn := fun _ => fun
  | [d1, d2] => { results := [.lit (.bool false)], args := [d1, d2] }
  | _ => none }
def PartsChecksWrongFalsely : Prop := partsChecksRow.holds Tryd.pinned (OpenSpec.ofChange partsChecksWrong)

/-- 'swashplatelaw09.PartsLeft': WHATEVER THE INPUT: true; the input reads as it did. -/
def partsLeftSpec : ChangeSpec := { name := "partsLeft", fn := fun _ => fun
  | [d1, d2, d3] => { results := [.lit (.bool true)], args := [d1, d2, d3] }
  | _ => none }
def partsLeftRow : OpenClaim := { program := "ytchnhjffpldpiaadoor", sum := "70ce516ce4397f997a5fc2406fdbcddbc9f194304b3b18055d0f2b2c258c25b8", func := "swashplate/swashplatelaw09.PartsLeft", spec := "partsLeft", unfollowed := true, recurses := true, named := ["swashplate/parts.store", "swashplate/parts.scrap"], apart := false, laid := [("swashplate/parts.store", laid_swashplate_parts_store), ("swashplate/parts.scrap", laid_swashplate_parts_scrap)] }
def PartsLeftSaid : Prop := partsLeftRow.holds Tryd.pinned (OpenSpec.ofChange partsLeftSpec)

/-- ITS FALSE NEIGHBOUR: 'it returns false'. Refute it at one input. -/
def partsLeftWrong : ChangeSpec := { name := "partsLeft", fn := fun _ => fun
  | [d1, d2, d3] => { results := [.lit (.bool false)], args := [d1, d2, d3] }
  | _ => none }
def PartsLeftWrongFalsely : Prop := partsLeftRow.holds Tryd.pinned (OpenSpec.ofChange partsLeftWrong)

/-- 'swashplatelaw09.PartsFlights': WHATEVER THE INPUT: true; the input reads as it did. -/
def partsFlightsSpec : ChangeSpec := { name := "partsFlights", fn := fun _ => fun
  | [d1, d2, d3] => { results := [.lit (.bool true)], args := [d1, d2, d3] }
  | _ => none }
def partsFlightsRow : OpenClaim := { program := "ytchnhjffpldpiaadoor", sum := "70ce516ce4397f997a5fc2406fdbcddbc9f194304b3b18055d0f2b2c258c25b8", func := "swashplate/swashplatelaw09.PartsFlights", spec := "partsFlights", unfollowed := true, recurses := true, named := ["swashplate/parts.store", "swashplate/parts.scrap"], apart := false, laid := [("swashplate/parts.store", laid_swashplate_parts_store), ("swashplate/parts.scrap", laid_swashplate_parts_scrap)] }
def PartsFlightsSaid : Prop := partsFlightsRow.holds Tryd.pinned (OpenSpec.ofChange partsFlightsSpec)

/-- ITS FALSE NEIGHBOUR: 'it returns false'. Refute it at one input. -/
def partsFlightsWrong : ChangeSpec := { name := "partsFlights", fn := fun _ => fun
  | [d1, d2, d3] => { results := [.lit (.bool false)], args := [d1, d2, d3] }
  | _ => none }
def PartsFlightsWrongFalsely : Prop := partsFlightsRow.holds Tryd.pinned (OpenSpec.ofChange partsFlightsWrong)

/-- 'swashplatelaw09.PartsComplete': WHATEVER THE INPUT: true; the input reads as it did. -/
def partsCompleteSpec : ChangeSpec := { name := "partsComplete", fn := fun _ => fun
  | [d1, d2] => { results := [.lit (.bool true)], args := [d1, d2] }
  | _ => none }
def partsCompleteRow : OpenClaim := { program := "ytchnhjffpldpiaadoor", sum := "70ce516ce4397f997a5fc2406fdbcddbc9f194304b3b18055d0f2b2c258c25b8", func := "swashplate/swashplatelaw09.PartsComplete", spec := "partsComplete", unfollowed := true, recurses := true, named := ["swashplate/parts.store", "swashplate/parts.scrap"], apart := false, laid := [("swashplate/parts.store", laid_swashplate_parts_store), ("swashplate/parts.scrap", laid_swashplate_parts_scrap)] }
def PartsCompleteSaid : Prop := partsCompleteRow.holds Tryd.pinned (OpenSpec.ofChange partsCompleteSpec)

/-- ITS FALSE NEIGHBOUR: 'it returns false'. Refute it at one input. -/
def partsCompleteWrong : ChangeSpec := { name := "partsComplete", fn := fun _ => fun
  | [d1, d2] => { results := [.lit (.bool false)], args := [d1, d2] }
  | _ => none }
def PartsCompleteWrongFalsely : Prop := partsCompleteRow.holds Tryd.pinned (OpenSpec.ofChange partsCompleteWrong)

/-- 'swashplatelaw09.PartsSwaps': WHATEVER THE INPUT: true; the input reads as it did. -/
def partsSwapsSpec : ChangeSpec := { name := "partsSwaps", fn := fun _ => fun
  | [d1, d2, d3] => { results := [.lit (.bool true)], args := [d1, d2, d3] }
  | _ => none }
def partsSwapsRow : OpenClaim := { program := "ytchnhjffpldpiaadoor", sum := "70ce516ce4397f997a5fc2406fdbcddbc9f194304b3b18055d0f2b2c258c25b8", func := "swashplate/swashplatelaw09.PartsSwaps", spec := "partsSwaps", unfollowed := true, recurses := true, named := ["swashplate/parts.store", "swashplate/parts.scrap"], apart := false, laid := [("swashplate/parts.store", laid_swashplate_parts_store), ("swashplate/parts.scrap", laid_swashplate_parts_scrap)] }
def PartsSwapsSaid : Prop := partsSwapsRow.holds Tryd.pinned (OpenSpec.ofChange partsSwapsSpec)

/-- ITS FALSE NEIGHBOUR: 'it returns false'. Refute it at one input. -/
def partsSwapsWrong : ChangeSpec := { name := "partsSwaps", fn := fun _ => fun
  | [d1, d2, d3] => { results := [.lit (.bool false)], args := [d1, d2, d3] }
  | _ => none }
def PartsSwapsWrongFalsely : Prop := partsSwapsRow.holds Tryd.pinned (OpenSpec.ofChange partsSwapsWrong)

/-- 'swashplatelaw09.PartsCycles': WHATEVER THE INPUT: true; the input reads as it did. -/
def partsCyclesSpec : ChangeSpec := { name := "partsCycles", fn := fun _ => fun
  | [d1, d2] => { results := [.lit (.bool true)], args := [d1, d2] }
  | _ => none }
def partsCyclesRow : OpenClaim := { program := "ytchnhjffpldpiaadoor", sum := "70ce516ce4397f997a5fc2406fdbcddbc9f194304b3b18055d0f2b2c258c25b8", func := "swashplate/swashplatelaw09.PartsCycles", spec := "partsCycles", unfollowed := true, recurses := true, named := ["swashplate/parts.store", "swashplate/parts.scrap"], apart := false, laid := [("swashplate/parts.store", laid_swashplate_parts_store), ("swashplate/parts.scrap", laid_swashplate_parts_scrap)] }
def PartsCyclesSaid : Prop := partsCyclesRow.holds Tryd.pinned (OpenSpec.ofChange partsCyclesSpec)

/-- ITS FALSE NEIGHBOUR: 'it returns false'. Refute it at one input. -/
def partsCyclesWrong : ChangeSpec := { name := "partsCycles", fn := fun _ => fun
  | [d1, d2] => { results := [.lit (.bool false)], args := [d1, d2] }
  | _ => none }
def PartsCyclesWrongFalsely : Prop := partsCyclesRow.holds Tryd.pinned (OpenSpec.ofChange partsCyclesWrong)

/-- 'swashplatelaw09.PartsDamage': WHATEVER THE INPUT: true; the input reads as it did. -/
def partsDamageSpec : ChangeSpec := { name := "partsDamage", fn := fun _ => fun
  | [d1, d2, d3] => { results := [.lit (.bool true)], args := [d1, d2, d3] }
  | _ => none }
def partsDamageRow : OpenClaim := { program := "ytchnhjffpldpiaadoor", sum := "70ce516ce4397f997a5fc2406fdbcddbc9f194304b3b18055d0f2b2c258c25b8", func := "swashplate/swashplatelaw09.PartsDamage", spec := "partsDamage", unfollowed := true, recurses := true, named := ["swashplate/parts.store", "swashplate/parts.scrap"], apart := false, laid := [("swashplate/parts.store", laid_swashplate_parts_store), ("swashplate/parts.scrap", laid_swashplate_parts_scrap)] }
def PartsDamageSaid : Prop := partsDamageRow.holds Tryd.pinned (OpenSpec.ofChange partsDamageSpec)

/-- ITS FALSE NEIGHBOUR: 'it returns false'. Refute it at one input. -/
def partsDamageWrong : ChangeSpec := { name := "partsDamage", fn := fun _ => fun
  | [d1, d2, d3] => { results := [.lit (.bool false)], args := [d1, d2, d3] }
  | _ => none }
def PartsDamageWrongFalsely : Prop := partsDamageRow.holds Tryd.pinned (OpenSpec.ofChange partsDamageWrong)

/-- 'swashplatelaw09.PartsPlans': WHATEVER THE INPUT: true; the input reads as it did. -/
def partsPlansSpec : ChangeSpec := { name := "partsPlans", fn := fun _ => fun
  | [d1, d2] => { results := [.lit (.bool true)], args := [d1, d2] }
  | _ => none }
def partsPlansRow : OpenClaim := { program := "ytchnhjffpldpiaadoor", sum := "70ce516ce4397f997a5fc2406fdbcddbc9f194304b3b18055d0f2b2c258c25b8", func := "swashplate/swashplatelaw09.PartsPlans", spec := "partsPlans", unfollowed := true, recurses := true, named := ["swashplate/parts.store", "swashplate/parts.scrap"], apart := false, laid := [("swashplate/parts.store", laid_swashplate_parts_store), ("swashplate/parts.scrap", laid_swashplate_parts_scrap)] }
def PartsPlansSaid : Prop := partsPlansRow.holds Tryd.pinned (OpenSpec.ofChange partsPlansSpec)

/-- ITS FALSE NEIGHBOUR: 'it returns false'. Refute it at one input. -/
def partsPlansWrong : ChangeSpec := { name := "partsPlans", fn := fun _ => fun
  | [d1, d2] => { results := [.lit (.bool false)], args := [d1, d2] }
  | _ => none }
def PartsPlansWrongFalsely : Prop := partsPlansRow.holds Tryd.pinned (OpenSpec.ofChange partsPlansWrong)

/-- 'swashplatelaw09.PartsFewest': WHATEVER THE INPUT: true; the input reads as it did. -/
def partsFewestSpec : ChangeSpec := { name := "partsFewest", fn := fun _ => fun
  | [d1, d2, d3] => { results := [.lit (.bool true)], args := [d1, d2, d3] }
  | _ => none }
def partsFewestRow : OpenClaim := { program := "ytchnhjffpldpiaadoor", sum := "70ce516ce4397f997a5fc2406fdbcddbc9f194304b3b18055d0f2b2c258c25b8", func := "swashplate/swashplatelaw09.PartsFewest", spec := "partsFewest", unfollowed := true, recurses := true, named := ["swashplate/parts.store", "swashplate/parts.scrap"], apart := false, laid := [("swashplate/parts.store", laid_swashplate_parts_store), ("swashplate/parts.scrap", laid_swashplate_parts_scrap)] }
def PartsFewestSaid : Prop := partsFewestRow.holds Tryd.pinned (OpenSpec.ofChange partsFewestSpec)

/-- ITS FALSE NEIGHBOUR: 'it returns false'. Refute it at one input. -/
def partsFewestWrong : ChangeSpec := { name := "partsFewest", fn := fun _ => fun
  | [d1, d2, d3] => { results := [.lit (.bool false)], args := [d1, d2, d3] }
  | _ => none }
def PartsFewestWrongFalsely : Prop := partsFewestRow.holds Tryd.pinned (OpenSpec.ofChange partsFewestWrong)

/-- 'swashplatelaw09.PartsPages': WHATEVER THE INPUT: true; the input reads as it did. -/
def partsPagesSpec : ChangeSpec := { name := "partsPages", fn := fun _ => fun
  | [d1, d2] => { results := [.lit (.bool true)], args := [d1, d2] }
  | _ => none }
def partsPagesRow : OpenClaim := { program := "ytchnhjffpldpiaadoor", sum := "70ce516ce4397f997a5fc2406fdbcddbc9f194304b3b18055d0f2b2c258c25b8", func := "swashplate/swashplatelaw09.PartsPages", spec := "partsPages", unfollowed := true, recurses := true, named := ["swashplate/parts.store", "swashplate/parts.scrap"], apart := false, laid := [("swashplate/parts.store", laid_swashplate_parts_store), ("swashplate/parts.scrap", laid_swashplate_parts_scrap)] }
def PartsPagesSaid : Prop := partsPagesRow.holds Tryd.pinned (OpenSpec.ofChange partsPagesSpec)

/-- ITS FALSE NEIGHBOUR: 'it returns false'. Refute it at one input. -/
def partsPagesWrong : ChangeSpec := { name := "partsPages", fn := fun _ => fun
  | [d1, d2] => { results := [.lit (.bool false)], args := [d1, d2] }
  | _ => none }
def PartsPagesWrongFalsely : Prop := partsPagesRow.holds Tryd.pinned (OpenSpec.ofChange partsPagesWrong)

/-- 'swashplatelaw09.PartsPaged': WHATEVER THE INPUT: true; the input reads as it did. -/
def partsPagedSpec : ChangeSpec := { name := "partsPaged", fn := fun _ => fun
  | [d1, d2] => { results := [.lit (.bool true)], args := [d1, d2] }
  | _ => none }
def partsPagedRow : OpenClaim := { program := "ytchnhjffpldpiaadoor", sum := "70ce516ce4397f997a5fc2406fdbcddbc9f194304b3b18055d0f2b2c258c25b8", func := "swashplate/swashplatelaw09.PartsPaged", spec := "partsPaged", unfollowed := true, recurses := true, named := ["swashplate/parts.store", "swashplate/parts.scrap"], apart := false, laid := [("swashplate/parts.store", laid_swashplate_parts_store), ("swashplate/parts.scrap", laid_swashplate_parts_scrap)] }
def PartsPagedSaid : Prop := partsPagedRow.holds Tryd.pinned (OpenSpec.ofChange partsPagedSpec)

/-- ITS FALSE NEIGHBOUR: 'it returns false'. Refute it at one input. -/
def partsPagedWrong : ChangeSpec := { name := "partsPaged", fn := fun _ => fun
  | [d1, d2] => { results := [.lit (.bool false)], args := [d1, d2] }
  | _ => none }
def PartsPagedWrongFalsely : Prop := partsPagedRow.holds Tryd.pinned (OpenSpec.ofChange partsPagedWrong)

/-- 'swashplatelaw09.PartsWorn': WHATEVER THE INPUT: true; the input reads as it did. -/
def partsWornSpec : ChangeSpec := { name := "partsWorn", fn := fun _ => fun
  | [d1, d2, d3] => { results := [.lit (.bool true)], args := [d1, d2, d3] }
  | _ => none }
def partsWornRow : OpenClaim := { program := "ytchnhjffpldpiaadoor", sum := "70ce516ce4397f997a5fc2406fdbcddbc9f194304b3b18055d0f2b2c258c25b8", func := "swashplate/swashplatelaw09.PartsWorn", spec := "partsWorn", unfollowed := true, recurses := true, named := ["swashplate/parts.store", "swashplate/parts.scrap"], apart := false, laid := [("swashplate/parts.store", laid_swashplate_parts_store), ("swashplate/parts.scrap", laid_swashplate_parts_scrap)] }
def PartsWornSaid : Prop := partsWornRow.holds Tryd.pinned (OpenSpec.ofChange partsWornSpec)

/-- ITS FALSE NEIGHBOUR: 'it returns false'. Refute it at one input. -/
def partsWornWrong : ChangeSpec := { name := "partsWorn", fn := fun _ => fun
  | [d1, d2, d3] => { results := [.lit (.bool false)], args := [d1, d2, d3] }
  | _ => none }
def PartsWornWrongFalsely : Prop := partsWornRow.holds Tryd.pinned (OpenSpec.ofChange partsWornWrong)

/- THE SECOND FORM. 'bulk': how many values and letters a reading holds, each counted each time it is reached (what is shared counts as often as it is met; a slice's spare places count too). A statement '..UptoSaid' is the law's where the arguments, and the package variables that the reading takes, are together of bulk at most 1048576: NARROWER than '..Said'. Prove '..Said' where nothing that the law and all that it calls make is longer than what came in: it says more and counts as full. Else prove '..UptoSaid'. A law counts once. -/
mutual
def uptoBulk {H : Type} : DataW H → Nat
  | .lit (.string bytes) => bytes.length + 1
  | .lit _ => 1
  | .nil => 1
  | .ptr d => uptoBulk d + 1
  | .slice elems spare => uptoBulkAll elems + uptoBulkAll spare + 1
  | .agg parts => uptoBulkAll parts + 1
  | .iface _ d => uptoBulk d + 1
  | .map entries => uptoBulkEntries entries + 1
  | .held _ => 1
def uptoBulkAll {H : Type} : List (DataW H) → Nat
  | [] => 0
  | d :: r => uptoBulk d + uptoBulkAll r
def uptoBulkEntries {H : Type} : List (Lit × DataW H) → Nat
  | [] => 0
  | x :: r => uptoBulkEntry x + uptoBulkEntries r
def uptoBulkEntry {H : Type} : Lit × DataW H → Nat
  | (.string bytes, d) => bytes.length + uptoBulk d + 1
  | (_, d) => uptoBulk d + 1
 end
def uptoSmall : (H : Type) → List (DataW H) → Bool := fun _ ds => decide (uptoBulkAll ds ≤ 1048576)
def OpenSpec.upto (s : _root_.Go.ChangeSpec) : _root_.Go.OpenSpec := { _root_.Go.OpenSpec.ofChange s with cond := some uptoSmall }

/-- 'swashplatelaw09.PartsCounted', WHERE WHAT IT READS IS OF BULK AT MOST 1048576: true; the input reads as it did. -/
def partsCountedUptoRow : OpenClaim := { program := "ytchnhjffpldpiaadoor", sum := "70ce516ce4397f997a5fc2406fdbcddbc9f194304b3b18055d0f2b2c258c25b8", func := "swashplate/swashplatelaw09.PartsCounted", spec := "partsCounted", unfollowed := true, recurses := true, named := ["swashplate/parts.store", "swashplate/parts.scrap"], apart := false, laid := [("swashplate/parts.store", laid_swashplate_parts_store), ("swashplate/parts.scrap", laid_swashplate_parts_scrap)], narrowed := true }
def PartsCountedUptoSaid : Prop := partsCountedUptoRow.holds Tryd.pinned (OpenSpec.upto partsCountedSpec)

/-- 'swashplatelaw09.PartsLongest', WHERE WHAT IT READS IS OF BULK AT MOST 1048576: true; the input reads as it did. -/
def partsLongestUptoRow : OpenClaim := { program := "ytchnhjffpldpiaadoor", sum := "70ce516ce4397f997a5fc2406fdbcddbc9f194304b3b18055d0f2b2c258c25b8", func := "swashplate/swashplatelaw09.PartsLongest", spec := "partsLongest", unfollowed := true, recurses := true, named := ["swashplate/parts.store", "swashplate/parts.scrap"], apart := false, laid := [("swashplate/parts.store", laid_swashplate_parts_store), ("swashplate/parts.scrap", laid_swashplate_parts_scrap)], narrowed := true }
def PartsLongestUptoSaid : Prop := partsLongestUptoRow.holds Tryd.pinned (OpenSpec.upto partsLongestSpec)

/-- 'swashplatelaw09.PartsLives', WHERE WHAT IT READS IS OF BULK AT MOST 1048576: true; the input reads as it did. -/
def partsLivesUptoRow : OpenClaim := { program := "ytchnhjffpldpiaadoor", sum := "70ce516ce4397f997a5fc2406fdbcddbc9f194304b3b18055d0f2b2c258c25b8", func := "swashplate/swashplatelaw09.PartsLives", spec := "partsLives", unfollowed := true, recurses := true, named := ["swashplate/parts.store", "swashplate/parts.scrap"], apart := false, laid := [("swashplate/parts.store", laid_swashplate_parts_store), ("swashplate/parts.scrap", laid_swashplate_parts_scrap)], narrowed := true }
def PartsLivesUptoSaid : Prop := partsLivesUptoRow.holds Tryd.pinned (OpenSpec.upto partsLivesSpec)

/-- 'swashplatelaw09.PartsChecks', WHERE WHAT IT READS IS OF BULK AT MOST 1048576: true; the input reads as it did. -/
def partsChecksUptoRow : OpenClaim := { program := "ytchnhjffpldpiaadoor", sum := "70ce516ce4397f997a5fc2406fdbcddbc9f194304b3b18055d0f2b2c258c25b8", func := "swashplate/swashplatelaw09.PartsChecks", spec := "partsChecks", unfollowed := true, recurses := true, named := ["swashplate/parts.store", "swashplate/parts.scrap"], apart := false, laid := [("swashplate/parts.store", laid_swashplate_parts_store), ("swashplate/parts.scrap", laid_swashplate_parts_scrap)], narrowed := true }
def PartsChecksUptoSaid : Prop := partsChecksUptoRow.holds Tryd.pinned (OpenSpec.upto partsChecksSpec)

/-- 'swashplatelaw09.PartsLeft', WHERE WHAT IT READS IS OF BULK AT MOST 1048576: true; the input reads as it did. -/
def partsLeftUptoRow : OpenClaim := { program := "ytchnhjffpldpiaadoor", sum := "70ce516ce4397f997a5fc2406fdbcddbc9f194304b3b18055d0f2b2c258c25b8", func := "swashplate/swashplatelaw09.PartsLeft", spec := "partsLeft", unfollowed := true, recurses := true, named := ["swashplate/parts.store", "swashplate/parts.scrap"], apart := false, laid := [("swashplate/parts.store", laid_swashplate_parts_store), ("swashplate/parts.scrap", laid_swashplate_parts_scrap)], narrowed := true }
def PartsLeftUptoSaid : Prop := partsLeftUptoRow.holds Tryd.pinned (OpenSpec.upto partsLeftSpec)

/-- 'swashplatelaw09.PartsFlights', WHERE WHAT IT READS IS OF BULK AT MOST 1048576: true; the input reads as it did. -/
def partsFlightsUptoRow : OpenClaim := { program := "ytchnhjffpldpiaadoor", sum := "70ce516ce4397f997a5fc2406fdbcddbc9f194304b3b18055d0f2b2c258c25b8", func := "swashplate/swashplatelaw09.PartsFlights", spec := "partsFlights", unfollowed := true, recurses := true, named := ["swashplate/parts.store", "swashplate/parts.scrap"], apart := false, laid := [("swashplate/parts.store", laid_swashplate_parts_store), ("swashplate/parts.scrap", laid_swashplate_parts_scrap)], narrowed := true }
def PartsFlightsUptoSaid : Prop := partsFlightsUptoRow.holds Tryd.pinned (OpenSpec.upto partsFlightsSpec)

/-- 'swashplatelaw09.PartsComplete', WHERE WHAT IT READS IS OF BULK AT MOST 1048576: true; the input reads as it did. -/
def partsCompleteUptoRow : OpenClaim := { program := "ytchnhjffpldpiaadoor", sum := "70ce516ce4397f997a5fc2406fdbcddbc9f194304b3b18055d0f2b2c258c25b8", func := "swashplate/swashplatelaw09.PartsComplete", spec := "partsComplete", unfollowed := true, recurses := true, named := ["swashplate/parts.store", "swashplate/parts.scrap"], apart := false, laid := [("swashplate/parts.store", laid_swashplate_parts_store), ("swashplate/parts.scrap", laid_swashplate_parts_scrap)], narrowed := true }
def PartsCompleteUptoSaid : Prop := partsCompleteUptoRow.holds Tryd.pinned (OpenSpec.upto partsCompleteSpec)

/-- 'swashplatelaw09.PartsSwaps', WHERE WHAT IT READS IS OF BULK AT MOST 1048576: true; the input reads as it did. -/
def partsSwapsUptoRow : OpenClaim := { program := "ytchnhjffpldpiaadoor", sum := "70ce516ce4397f997a5fc2406fdbcddbc9f194304b3b18055d0f2b2c258c25b8", func := "swashplate/swashplatelaw09.PartsSwaps", spec := "partsSwaps", unfollowed := true, recurses := true, named := ["swashplate/parts.store", "swashplate/parts.scrap"], apart := false, laid := [("swashplate/parts.store", laid_swashplate_parts_store), ("swashplate/parts.scrap", laid_swashplate_parts_scrap)], narrowed := true }
def PartsSwapsUptoSaid : Prop := partsSwapsUptoRow.holds Tryd.pinned (OpenSpec.upto partsSwapsSpec)

/-- 'swashplatelaw09.PartsCycles', WHERE WHAT IT READS IS OF BULK AT MOST 1048576: true; the input reads as it did. -/
def partsCyclesUptoRow : OpenClaim := { program := "ytchnhjffpldpiaadoor", sum := "70ce516ce4397f997a5fc2406fdbcddbc9f194304b3b18055d0f2b2c258c25b8", func := "swashplate/swashplatelaw09.PartsCycles", spec := "partsCycles", unfollowed := true, recurses := true, named := ["swashplate/parts.store", "swashplate/parts.scrap"], apart := false, laid := [("swashplate/parts.store", laid_swashplate_parts_store), ("swashplate/parts.scrap", laid_swashplate_parts_scrap)], narrowed := true }
def PartsCyclesUptoSaid : Prop := partsCyclesUptoRow.holds Tryd.pinned (OpenSpec.upto partsCyclesSpec)

/-- 'swashplatelaw09.PartsDamage', WHERE WHAT IT READS IS OF BULK AT MOST 1048576: true; the input reads as it did. -/
def partsDamageUptoRow : OpenClaim := { program := "ytchnhjffpldpiaadoor", sum := "70ce516ce4397f997a5fc2406fdbcddbc9f194304b3b18055d0f2b2c258c25b8", func := "swashplate/swashplatelaw09.PartsDamage", spec := "partsDamage", unfollowed := true, recurses := true, named := ["swashplate/parts.store", "swashplate/parts.scrap"], apart := false, laid := [("swashplate/parts.store", laid_swashplate_parts_store), ("swashplate/parts.scrap", laid_swashplate_parts_scrap)], narrowed := true }
def PartsDamageUptoSaid : Prop := partsDamageUptoRow.holds Tryd.pinned (OpenSpec.upto partsDamageSpec)

/-- 'swashplatelaw09.PartsPlans', WHERE WHAT IT READS IS OF BULK AT MOST 1048576: true; the input reads as it did. -/
def partsPlansUptoRow : OpenClaim := { program := "ytchnhjffpldpiaadoor", sum := "70ce516ce4397f997a5fc2406fdbcddbc9f194304b3b18055d0f2b2c258c25b8", func := "swashplate/swashplatelaw09.PartsPlans", spec := "partsPlans", unfollowed := true, recurses := true, named := ["swashplate/parts.store", "swashplate/parts.scrap"], apart := false, laid := [("swashplate/parts.store", laid_swashplate_parts_store), ("swashplate/parts.scrap", laid_swashplate_parts_scrap)], narrowed := true }
def PartsPlansUptoSaid : Prop := partsPlansUptoRow.holds Tryd.pinned (OpenSpec.upto partsPlansSpec)

/-- 'swashplatelaw09.PartsFewest', WHERE WHAT IT READS IS OF BULK AT MOST 1048576: true; the input reads as it did. -/
def partsFewestUptoRow : OpenClaim := { program := "ytchnhjffpldpiaadoor", sum := "70ce516ce4397f997a5fc2406fdbcddbc9f194304b3b18055d0f2b2c258c25b8", func := "swashplate/swashplatelaw09.PartsFewest", spec := "partsFewest", unfollowed := true, recurses := true, named := ["swashplate/parts.store", "swashplate/parts.scrap"], apart := false, laid := [("swashplate/parts.store", laid_swashplate_parts_store), ("swashplate/parts.scrap", laid_swashplate_parts_scrap)], narrowed := true }
def PartsFewestUptoSaid : Prop := partsFewestUptoRow.holds Tryd.pinned (OpenSpec.upto partsFewestSpec)

/-- 'swashplatelaw09.PartsPages', WHERE WHAT IT READS IS OF BULK AT MOST 1048576: true; the input reads as it did. -/
def partsPagesUptoRow : OpenClaim := { program := "ytchnhjffpldpiaadoor", sum := "70ce516ce4397f997a5fc2406fdbcddbc9f194304b3b18055d0f2b2c258c25b8", func := "swashplate/swashplatelaw09.PartsPages", spec := "partsPages", unfollowed := true, recurses := true, named := ["swashplate/parts.store", "swashplate/parts.scrap"], apart := false, laid := [("swashplate/parts.store", laid_swashplate_parts_store), ("swashplate/parts.scrap", laid_swashplate_parts_scrap)], narrowed := true }
def PartsPagesUptoSaid : Prop := partsPagesUptoRow.holds Tryd.pinned (OpenSpec.upto partsPagesSpec)

/-- 'swashplatelaw09.PartsPaged', WHERE WHAT IT READS IS OF BULK AT MOST 1048576: true; the input reads as it did. -/
def partsPagedUptoRow : OpenClaim := { program := "ytchnhjffpldpiaadoor", sum := "70ce516ce4397f997a5fc2406fdbcddbc9f194304b3b18055d0f2b2c258c25b8", func := "swashplate/swashplatelaw09.PartsPaged", spec := "partsPaged", unfollowed := true, recurses := true, named := ["swashplate/parts.store", "swashplate/parts.scrap"], apart := false, laid := [("swashplate/parts.store", laid_swashplate_parts_store), ("swashplate/parts.scrap", laid_swashplate_parts_scrap)], narrowed := true }
def PartsPagedUptoSaid : Prop := partsPagedUptoRow.holds Tryd.pinned (OpenSpec.upto partsPagedSpec)

/-- 'swashplatelaw09.PartsWorn', WHERE WHAT IT READS IS OF BULK AT MOST 1048576: true; the input reads as it did. -/
def partsWornUptoRow : OpenClaim := { program := "ytchnhjffpldpiaadoor", sum := "70ce516ce4397f997a5fc2406fdbcddbc9f194304b3b18055d0f2b2c258c25b8", func := "swashplate/swashplatelaw09.PartsWorn", spec := "partsWorn", unfollowed := true, recurses := true, named := ["swashplate/parts.store", "swashplate/parts.scrap"], apart := false, laid := [("swashplate/parts.store", laid_swashplate_parts_store), ("swashplate/parts.scrap", laid_swashplate_parts_scrap)], narrowed := true }
def PartsWornUptoSaid : Prop := partsWornUptoRow.holds Tryd.pinned (OpenSpec.upto partsWornSpec)

end Rows
end Go.Proofs.YtchnhjffpldpiaaDoor
