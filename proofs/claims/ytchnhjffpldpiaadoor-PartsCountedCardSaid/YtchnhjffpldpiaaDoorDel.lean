/- slices.Delete on a pile that a call owns. -/
import Derived.Test.YtchnhjffpldpiaaDoorShelf
import Derived.Test.YtchnhjffpldpiaaDoorOwnI
namespace Go.Proofs.YtchnhjffpldpiaaDoor
open Go Go.RowKit Go.Sort

variable {E : TypeId} {w : World} {B : Nat} {xs : List Int} {g off n cap : Nat}

theorem heap_mapBlock {b : Nat} {c : List Value} {T : TypeId} {f : Nat × Nat} (h : w.heap[b]? = some (.cells c.toArray T f)) (F : Array Value → Array Value) :
    (mapBlock w b F).heap[b]? = some (.cells (F c.toArray) T f) := by
  simp [mapBlock, Array.getElem?_modify, h, onCells]
theorem heap_mapBlock_other {b k : Nat} (h : k ≠ b) (F : Array Value → Array Value) : (mapBlock w b F).heap[k]? = w.heap[k]? := by
  simp only [mapBlock, Array.getElem?_modify]
  rw [if_neg (fun e => h e.symm)]
theorem size_mapBlock (b : Nat) (F : Array Value → Array Value) : (mapBlock w b F).heap.size = w.heap.size := by simp [mapBlock]

theorem OwnI.holds (h : OwnI E w B (.slice (some ⟨g, off, none⟩) n cap) xs) : Holds (Value.int .i64) w g off xs.toArray := by
  obtain ⟨cur, e, h2, h3, h4, h5, h6, h7, h8⟩ := h.at
  intro j hj
  have hj : j < xs.length := by simpa using hj
  refine ⟨?_, by simp [World.frozen?, h3]⟩
  have e : xs.toArray[j]! = xs[j]! := by rw [getElem!_pos xs.toArray j (by simpa using hj), getElem!_pos xs j hj]; simp
  rw [e]
  simp [World.cell?, h3, h8 j hj]

/-- The first m of the elements behind a rewriting of all of them. -/
theorem OwnI.put (h : OwnI E w B (.slice (some ⟨g, off, none⟩) n cap) xs) (d : List Int) (hd : d.length = xs.length) (m q : Nat) (hm0 : 0 < m) (hm : m ≤ d.length) :
    OwnI E (putRow (Value.int .i64) (Sort.ahead w q) g off d.toArray) B (.slice (some ⟨g, off, none⟩) m cap) (d.take m) := by
  obtain ⟨cur, e, h2, h3, h4, h5, h6, h7, h8⟩ := h.at
  have h3' : (Sort.ahead w q).heap[g]? = some (.cells cur.toArray E (0, 0)) := h3
  refine .inr ⟨g, off, cap, (putCells (Value.int .i64) off d.toArray cur.toArray).toList, by rw [List.length_take, Nat.min_eq_left hm], h2, ?_, by rw [List.length_take]; omega, by rw [List.length_take]; omega, ?_, h7, fun j hj => ?_⟩
  · have := heap_mapBlock h3' (putCells (Value.int .i64) off d.toArray)
    simpa [putRow] using this
  · rw [Array.length_toList]; unfold putCells; simpa using h6
  · have hj : j < m := by rw [List.length_take] at hj; omega
    rw [Array.getElem?_toList]
    unfold putCells
    rw [Array.getElem?_mapIdx]
    have hlt : off + j < cur.toArray.size := by simp; omega
    rw [Array.getElem?_eq_getElem hlt, Option.map_some, if_pos ⟨by omega, by simp; omega⟩, show off + j - off = j by omega]
    congr 2
    rw [getElem!_pos d.toArray j (by simp; omega), getElem!_pos (d.take m) j (by rw [List.length_take]; omega)]
    simp

theorem grown_put (d : Array Int) (q : Nat) : w.grownBy (putRow (Value.int .i64) (Sort.ahead w q) g off d) (some g) :=
  ⟨rfl, rfl, rfl, by show _ ≤ (mapBlock _ _ _).heap.size; rw [size_mapBlock]; exact Nat.le_refl _, fun k _ hne => heap_mapBlock_other (w := Sort.ahead w q) (fun e => hne (by rw [e])) _⟩

/-- The two elements ahead of the last but one .. deleted: the pile of q + 4 elements is cut to q + 2. -/
theorem delete_any (h : OwnI 3 w B (.slice (some ⟨g, off, none⟩) n cap) xs) (q : Nat) (hq : xs.length = q + 4) :
    Calls Tryd.prog 116 #[.slice (some ⟨g, off, none⟩) (q + 4) cap, .int .i64 ((q + 1 : Nat) : Int), .int .i64 ((q + 3 : Nat) : Int)] w fun e w' =>
      e = .returned (.slice (some ⟨g, off, none⟩) (q + 2) cap) ∧ OwnI 3 w' B (.slice (some ⟨g, off, none⟩) (q + 2) cap) (xs.take (q + 1) ++ [xs[q + 3]!]) ∧ w.grownBy w' (some g) := by
  obtain ⟨cur, e, h2, h3, h4, h5, h6, h7, h8⟩ := h.at
  have := Tryd.slices_Delete_int g off cap (q + 1) (q + 3) xs w h.holds h5 (by simp only [maxLen] at h7; omega) (by omega) (by omega)
  rw [hq] at this
  refine this.mono ?_
  rintro e' w' ⟨he, p, rfl⟩
  rw [show q + 4 - (q + 3 - (q + 1)) = q + 2 by omega] at he
  have hdr : xs.drop (q + 3) = [xs[q + 3]!] := by
    rw [List.drop_eq_getElem_cons (by omega), List.drop_eq_nil_of_le (by omega), getElem!_pos xs (q + 3) (by omega)]
  have ht : (xs.take (q + 1) ++ xs.drop (q + 3) ++ List.replicate (q + 3 - (q + 1)) (0 : Int)).take (q + 2) = xs.take (q + 1) ++ [xs[q + 3]!] := by
    rw [hdr]
    refine List.take_left' ?_
    simp; omega
  refine ⟨he, ?_, grown_put _ p⟩
  have := h.put (xs.take (q + 1) ++ xs.drop (q + 3) ++ List.replicate (q + 3 - (q + 1)) (0 : Int)) (by simp; omega) (q + 2) p (by omega) (by simp; omega)
  rwa [ht] at this
end Go.Proofs.YtchnhjffpldpiaaDoor
