/- swashplatelaw09.Example -/
import Derived.Test.YtchnhjffpldpiaaDoorLongest
import Derived.Test.YtchnhjffpldpiaaDoorSame
namespace Go.Proofs.YtchnhjffpldpiaaDoor
open Go.RowKit

def exR : RegR := { kinds := [⟨100, 50, 1⟩, ⟨1000, 1000, 2⟩], parts := [⟨0, 90, 10, true⟩, ⟨0, 0, 0, true⟩, ⟨1, 0, 0, true⟩, ⟨1, 0, 0, true⟩], machines := 1, orders := [⟨1, 5⟩] }
def exL : List WorkR := [⟨2, 0, 0, 0⟩, ⟨2, 2, 0, 0⟩, ⟨2, 3, 0, 1⟩, ⟨1, 0, 4, 3⟩]

theorem ex_longest : longestR (openH exR exL) 0 2 = (6, 0) := by kernel_rfl
theorem ex_cycles : cycP [0, 5, 2, 4, 1, 6, 0] = [(2, 2), (4, 2), (6, 1), (6, 1)] := by kernel_rfl
theorem ex_series : seriesE [0, 5, 2, 4, 1, 6, 0] = 0 := by kernel_rfl

theorem flat_cells {α : Type} [Inhabited α] (enc : α → List Value) (k : Nat) (hk : ∀ x, (enc x).length = k) : ∀ (xs : List α) (j i : Nat) (u : Value), j < xs.length → (enc xs[j]!)[i]? = some u → (xs.flatMap enc)[j * k + i]? = some u := by
  intro xs
  induction xs with
  | nil => intro j i u hj; simp at hj
  | cons x xs ih =>
    intro j i u hj hu
    cases j with
    | zero =>
      have hi : i < (enc x).length := (List.getElem?_eq_some_iff.1 (show (enc x)[i]? = some u from hu)).1
      rw [List.flatMap_cons, Nat.zero_mul, Nat.zero_add, List.getElem?_append_left hi]
      exact hu
    | succ j =>
      rw [List.flatMap_cons, List.getElem?_append_right (by rw [hk, Nat.succ_mul]; omega), hk, show (j + 1) * k + i - k = j * k + i by rw [Nat.succ_mul]; omega]
      exact ih j i u (by simpa using hj) hu
/-- A block known whole reads as the list that it was made of. -/
theorem rd_block {α : Type} [Inhabited α] {enc : α → List Value} {k : Nat} (hk : ∀ x, (enc x).length = k) {w : World} {B b : Nat} {xs : List α} {cs : Array Value} {T : TypeId} {f : Nat × Nat} (h : w.heap[b]? = some (.cells cs T f)) (hc : cs.toList = xs.flatMap enc) (hb : b < B) (n : Nat) (hn : n = xs.length) (hbig : n ≤ 1000000) :
    Rd enc k w B (some ⟨b, 0, none⟩) n xs := by
  refine ⟨hn, by omega, b, 0, fun _ => ⟨rfl, hb⟩, fun j hj i u hu => ?_⟩
  have := flat_cells enc k hk xs j i u (by omega) hu
  rw [← hc] at this
  simp only [World.cell?, h, Nat.zero_add]
  simpa using this

set_option maxRecDepth 100000 in
set_option maxHeartbeats 1000000 in
theorem example_any (w : World) :
    Calls Tryd.prog 61 #[] w fun e w' => ∃ ka pa oa la, e = .returned (.tuple #[.agg #[.slice ka 2 2, .slice pa 4 4, .int .i64 1, .slice oa 1 1], .slice la 4 4]) ∧ RegRd w' w'.heap.size ka pa oa 2 4 1 exR ∧ Rd encWork 4 w' w'.heap.size la 4 exL ∧ Below w.heap.size w w' := by
  go_enter Tryd.func61, Tryd.ntmps61
  go_wp2
  refine bodyPost_ret (v := .tuple #[.agg #[.slice (some ⟨w.heap.size + 1, 0, none⟩) 2 2, .slice (some ⟨w.heap.size + 1 + 1, 0, none⟩) 4 4, .int .i64 1, .slice (some ⟨w.heap.size + 1 + 1 + 1, 0, none⟩) 1 1], .slice (some ⟨w.heap.size + 1 + 1 + 1 + 1 + 1, 0, none⟩) 4 4]) (by simp [results, Tryd.results61, go_sem]) rfl ⟨_, _, _, _, rfl, ⟨?_, ?_, ?_⟩, ?_, ?_⟩
  · exact rd_block (enc := encKind) (k := 3) (fun _ => rfl) (by (simp only [World.alloc, Array.getElem?_push, Array.size_push]; (repeat (first | rw [if_neg (by omega)] | rw [if_pos (by omega)] | rw [if_pos trivial])); rfl)) rfl (by simp only [World.size_alloc]; omega) 2 rfl (by omega)
  · exact rd_block (enc := encPart) (k := 4) (fun _ => rfl) (by (simp only [World.alloc, Array.getElem?_push, Array.size_push]; (repeat (first | rw [if_neg (by omega)] | rw [if_pos (by omega)] | rw [if_pos trivial])); rfl)) rfl (by simp only [World.size_alloc]; omega) 4 rfl (by omega)
  · exact rd_block (enc := encOrder) (k := 2) (fun _ => rfl) (by (simp only [World.alloc, Array.getElem?_push, Array.size_push]; (repeat (first | rw [if_neg (by omega)] | rw [if_pos (by omega)] | rw [if_pos trivial])); rfl)) rfl (by simp only [World.size_alloc]; omega) 1 rfl (by omega)
  · exact rd_block (enc := encWork) (k := 4) (fun _ => rfl) (by (simp only [World.alloc, Array.getElem?_push, Array.size_push]; (repeat (first | rw [if_neg (by omega)] | rw [if_pos (by omega)] | rw [if_pos trivial])); rfl)) rfl (by simp only [World.size_alloc]; omega) 4 rfl (by omega)
  · exact (((((((Below.refl _ _).alloc (Nat.le_refl _) _).alloc (by simp only [World.size_alloc]; omega) _).alloc (by simp only [World.size_alloc]; omega) _).alloc (by simp only [World.size_alloc]; omega) _).alloc (by simp only [World.size_alloc]; omega) _).alloc (by simp only [World.size_alloc]; omega) _)
end Go.Proofs.YtchnhjffpldpiaaDoor
