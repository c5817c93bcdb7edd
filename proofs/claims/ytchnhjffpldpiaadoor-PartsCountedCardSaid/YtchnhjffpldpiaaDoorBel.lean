/- A region that draws its order and whose operations read, or call functions that make memory: walked once, in the order of the text, over the class of worlds that keep what lay. -/
import Derived.Test.YtchnhjffpldpiaaDoorBase
import Derived.Deep.QuietTactic
import Derived.BigQuiet
namespace Go.Proofs.YtchnhjffpldpiaaDoor
open Go.RowKit

/-- The worlds in which all that lay in w lies as it lay. -/
def Bel (w : World) := { W : World // Below w.heap.size w W }
instance (w : World) : Nonempty (Bel w) := ⟨⟨w, Below.refl _ _⟩⟩
theorem Bel.bel {w : World} (x : Bel w) : Below w.heap.size w x.1 := x.2

theorem wp_region_below {P : Program} {id : Nat} {Q : Exit → Act → World → Prop} {a : Act} {w : World} {l : List Oper} (hm : P.follows .mixedOrders = true) (hB : Region.lexB .any l.toArray = true)
    (h : wpQuiet P l.toArray (fun w' => ∃ x : Bel w, w' = x.1) (fun a' => ∀ w', (∃ x : Bel w, w' = x.1) → Q .normal a' w') l a) : (Code.region id l.toArray true).wp P Q a w :=
  wp_region_quiet (C := fun w' => ∃ x : Bel w, w' = x.1) hm hB ⟨⟨_, (Below.refl _ w).drew⟩, rfl⟩ (by simpa using h)

theorem Calls_bel {P : Program} {f : FuncId} {args : Array Value} {w : World} {v : Value} (x : Bel w)
    (h : Calls P f args x.1 fun e w' => e = .returned v ∧ Below x.1.heap.size x.1 w') : Calls P f args x.1 fun e w'' => e = .returned v ∧ ∃ y : Bel w, w'' = y.1 :=
  h.mono fun _ w' ⟨he, hb⟩ => ⟨he, ⟨w', x.2.trans (hb.mono x.2.size)⟩, rfl⟩
theorem Calls_bel_same {P : Program} {f : FuncId} {args : Array Value} {w : World} {v : Value} (x : Bel w)
    (h : Calls P f args x.1 fun e w' => e = .returned v ∧ x.1 = w') : Calls P f args x.1 fun e w'' => e = .returned v ∧ ∃ y : Bel w, w'' = y.1 :=
  h.mono fun _ _ ⟨he, hb⟩ => ⟨he, x, hb.symm⟩

end Go.Proofs.YtchnhjffpldpiaaDoor
