/- Small general laws: '==' on arrays of two integers; ranges; results. -/
import Derived.WalkKit
import Derived.WalkSpells
import Derived.WalkLawsBesides
import Derived.KernelRfl
namespace Go.Proofs.YtchnhjffpldpiaaDoor
open Go.RowKit

theorem run_equalIn_arr2 {P : Program} (D t e : TypeId) (k : IntKind) (i : TypeInfo) (ht : P.underlying t = some (.array 2 e)) (he : P.underlying e = some (.int k)) (hi : P.info? e = some i) (hs : i.size = 1)
   (ha : ∀ w, (isAgg e).run P w = .ok false w) (a b c d : Int) (w : World) :
   (Op.equalIn (D+1+1) t (.agg #[.int k a, .int k b]) (.agg #[.int k c, .int k d])).run P w = .ok (a == c && b == d) w := by
  rw [Op.equalIn]
  simp only [Sem.run_bind, run_underlying ht, Result.andThen_ok, sizeOf, typeInfo]
  simp [hi, hs, part, ha, Std.Legacy.Range.forIn_eq_forIn_range', Std.Legacy.Range.size, List.range'_succ, run_equalIn_int _ _ _ _ _ _ _ he, Sem.run_bind]
  by_cases h : a = c
  · subst h
    by_cases h' : b = d
    · subst h'; simp 
    · simp [h']
  · simp [h]
theorem run_eqlIn_arr2 {P : Program} (t e : TypeId) (k : IntKind) (i : TypeInfo) (ht : P.underlying t = some (.array 2 e)) (he : P.underlying e = some (.int k)) (hi : P.info? e = some i) (hs : i.size = 1)
   (ha : ∀ w, (isAgg e).run P w = .ok false w) (a b c d : Int) (w : World) :
   (Op.equalIn 10000 t (.agg #[.int k a, .int k b]) (.agg #[.int k c, .int k d])).run P w = .ok (a == c && b == d) w :=
  run_equalIn_arr2 (P := P) 9998 t e k i ht he hi hs ha a b c d w

/-- Is a number from lo to hi? -/
def inB (n lo hi : Int) : Bool := decide (lo ≤ n) && decide (n ≤ hi)

theorem inB_iff {n lo hi : Int} : inB n lo hi = true ↔ lo ≤ n ∧ n ≤ hi := by simp [inB]
theorem inB_not {n lo hi : Int} : inB n lo hi = false ↔ ¬ (lo ≤ n ∧ n ≤ hi) := by
  rw [← inB_iff]; simp

theorem ret_bool {a b : Bool} (h : a = b) : Ending.returned (.bool a) = .returned (.bool b) := by rw [h]
theorem ret_int {k : IntKind} {a b : Int} (h : a = b) : Ending.returned (.int k a) = .returned (.int k b) := by rw [h]
/-- The world of a call under a name. -/
theorem Calls_named {P : Program} {f : FuncId} {args : Array Value} {w : World} {R : Ending → World → Prop} (h : ∀ W, W = w → Calls P f args W R) : Calls P f args w R := h w rfl
theorem below_refl' {B : Nat} {w w' : World} (h : w' = w) : Below B w w' := by subst h; exact Below.refl _ _

end Go.Proofs.YtchnhjffpldpiaaDoor
