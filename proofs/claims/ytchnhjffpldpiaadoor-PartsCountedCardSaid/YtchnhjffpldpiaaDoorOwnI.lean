/- A slice of integers that a call owns, wherever in its block it begins; append onto it. No walk. -/
import Derived.Test.YtchnhjffpldpiaaDoorModel
import Derived.ArgAppend
import Derived.Maps.AppendAt
import Derived.Deep.AppendLies
namespace Go.Proofs.YtchnhjffpldpiaaDoor
open Go Go.RowKit

/-- v is nil, or a slice of the cells xs in a block from B on. -/
def OwnI (E : TypeId) (w : World) (B : Nat) (v : Value) (xs : List Int) : Prop :=
  (v = .slice none 0 0 ∧ xs = []) ∨
  ∃ (g off cap : Nat) (cur : List Value), v = .slice (some ⟨g, off, none⟩) xs.length cap ∧ B ≤ g ∧ w.heap[g]? = some (.cells cur.toArray E (0, 0)) ∧ 0 < xs.length ∧ xs.length ≤ cap ∧ off + cap ≤ cur.length ∧ cap ≤ maxLen ∧ ∀ j, j < xs.length → cur[off + j]? = some (.int .i64 xs[j]!)

variable {E : TypeId} {w w' : World} {B : Nat} {v : Value} {xs : List Int} {g off n cap : Nat}

theorem OwnI.nil : OwnI E w B (.slice none 0 0) [] := .inl ⟨rfl, rfl⟩
theorem OwnI.up {B' : Nat} (h : OwnI E w B v xs) (hB : B' ≤ B) : OwnI E w B' v xs := by
  rcases h with h | ⟨g, off, cap, cur, h1, h2, h3⟩
  · exact .inl h
  · exact .inr ⟨g, off, cap, cur, h1, Nat.le_trans hB h2, h3⟩
/-- Where its own block lies as it lay, it is as it was. -/
theorem OwnI.kept (h : OwnI E w B v xs) (hk : ∀ g, v.ownBlock = some g → w'.heap[g]? = w.heap[g]?) : OwnI E w' B v xs := by
  rcases h with h | ⟨g, off, cap, cur, h1, h2, h3, h4⟩
  · exact .inl h
  · exact .inr ⟨g, off, cap, cur, h1, h2, (hk g (by rw [h1]; rfl)).trans h3, h4⟩
theorem OwnI.own (h : OwnI E w B v xs) {g : Nat} (hg : v.ownBlock = some g) : B ≤ g ∧ g < w.heap.size := by
  rcases h with ⟨h, _⟩ | ⟨g', off, cap, cur, h1, h2, h3, h4⟩
  · rw [h] at hg; cases hg
  · rw [h1] at hg; cases hg; exact ⟨h2, (Array.getElem?_eq_some_iff.1 h3).1⟩
theorem OwnI.below (h : OwnI E w B v xs) (hb : Below w.heap.size w w') : OwnI E w' B v xs :=
  h.kept fun _ hg => hb.block _ (h.own hg).2
theorem OwnI.form (h : OwnI E w B v xs) (hne : xs ≠ []) : ∃ g off cap, v = .slice (some ⟨g, off, none⟩) xs.length cap ∧ xs.length ≤ cap ∧ cap ≤ maxLen ∧ B ≤ g ∧ g < w.heap.size ∧
    ∀ j, j < xs.length → w.cell? ⟨g, off + j, none⟩ = some (.int .i64 xs[j]!) ∧ w.frozen? ⟨g, off + j, none⟩ = false := by
  rcases h with ⟨_, h⟩ | ⟨g, off, cap, cur, h1, h2, h3, h4, h5, h6, h7, h8⟩
  · exact absurd h hne
  · exact ⟨g, off, cap, h1, h5, h7, h2, (Array.getElem?_eq_some_iff.1 h3).1, fun j hj => ⟨by simp [World.cell?, h3, h8 j hj], by simp [World.frozen?, h3]⟩⟩
theorem OwnI.view (h : OwnI E w B v xs) : ∃ ao cap, v = .slice ao xs.length cap ∧ xs.length ≤ cap ∧ cap ≤ maxLen ∧ (0 < xs.length → ∃ g off, ao = some ⟨g, off, none⟩) := by
  rcases h with ⟨h1, h2⟩ | ⟨g, off, cap, cur, h1, h2, h3, h4, h5, h6, h7, h8⟩
  · subst h2; exact ⟨none, 0, h1, Nat.le_refl _, by simp [maxLen], fun h => by simp at h⟩
  · exact ⟨_, cap, h1, h5, h7, fun _ => ⟨g, off, rfl⟩⟩
theorem OwnI.cells (h : OwnI E w B (.slice (some ⟨g, off, none⟩) n cap) xs) : ∀ j, j < xs.length → w.cell? ⟨g, off + j, none⟩ = some (.int .i64 xs[j]!) := by
  rcases h with ⟨h, _⟩ | ⟨g', off', cap', cur, h1, h2, h3, h4, h5, h6, h7, h8⟩
  · cases h
  · cases h1
    intro j hj
    simp [World.cell?, h3, h8 j hj]
theorem OwnI.at (h : OwnI E w B (.slice (some ⟨g, off, none⟩) n cap) xs) : ∃ cur : List Value, n = xs.length ∧ B ≤ g ∧ w.heap[g]? = some (.cells cur.toArray E (0, 0)) ∧ 0 < xs.length ∧ xs.length ≤ cap ∧ off + cap ≤ cur.length ∧ cap ≤ maxLen ∧ ∀ j, j < xs.length → cur[off + j]? = some (.int .i64 xs[j]!) := by
  rcases h with ⟨h, _⟩ | ⟨g', off', cap', cur, h1, h2⟩
  · cases h
  · injection h1 with e1 e2 e3
    injection e1 with e1
    injection e1 with e4 e5
    subst e3 e4 e5
    exact ⟨cur, e2, h2⟩

theorem OwnI.caps (h : OwnI E w B (.slice (some ⟨g, off, none⟩) n cap) xs) : xs.length ≤ cap ∧ cap ≤ 9223372036854775807 := by
  obtain ⟨_, _, _, _, _, h5, _, h7, _⟩ := h.at
  simp only [maxLen] at h7
  exact ⟨h5, by omega⟩

theorem heap_set {b : Nat} {c : List Value} {T : TypeId} {f : Nat × Nat} (h : w.heap[b]? = some (.cells c.toArray T f)) (o : Nat) (v : Value) :
    (w.setCell ⟨b, o, none⟩ v).heap[b]? = some (.cells (c.set o v).toArray T f) := by
  simp [World.setCell, Array.getElem?_modify, h]

theorem getset (l : List Int) (k i : Nat) (x : Int) (hk : k < l.length) : (l.set k x)[i]! = if i = k then x else l[i]! := by
  by_cases h : i = k
  · subst h; simp [hk]
  · rw [if_neg h]
    simp only [List.getElem!_eq_getElem?_getD]
    rw [List.getElem?_set_ne (by omega)]

/-- A store into an element. -/
theorem OwnI.set (h : OwnI E w B (.slice (some ⟨g, off, none⟩) n cap) xs) (j : Nat) (hj : j < xs.length) (x : Int) :
    OwnI E (w.setCell ⟨g, off + j, none⟩ (.int .i64 x)) B (.slice (some ⟨g, off, none⟩) n cap) (xs.set j x) := by
  obtain ⟨cur, e, h2, h3, h4, h5, h6, h7, h8⟩ := h.at
  refine .inr ⟨g, off, cap, cur.set (off + j) (.int .i64 x), by rw [List.length_set, e], h2, heap_set h3 _ _, by rw [List.length_set]; exact h4, by rw [List.length_set]; exact h5, by rw [List.length_set]; exact h6, h7, fun i hi => ?_⟩
  rw [List.length_set] at hi
  rw [getset xs j i x hj]
  by_cases e2 : i = j
  · subst e2; rw [if_pos rfl, List.getElem?_set_self (by omega)]
  · rw [if_neg e2, List.getElem?_set_ne (by omega)]; exact h8 i hi

/-- A part of it: the first k elements dropped. -/
theorem OwnI.drop (h : OwnI E w B (.slice (some ⟨g, off, none⟩) n cap) xs) (k : Nat) (hk : k < xs.length) :
    OwnI E w B (.slice (some ⟨g, off + k, none⟩) (n - k) (cap - k)) (xs.drop k) := by
  obtain ⟨cur, e, h2, h3, h4, h5, h6, h7, h8⟩ := h.at
  refine .inr ⟨g, off + k, cap - k, cur, by rw [List.length_drop, e], h2, h3, by rw [List.length_drop]; omega, by rw [List.length_drop]; omega, by omega, by omega, fun j hj => ?_⟩
  rw [List.length_drop] at hj
  have := h8 (k + j) (by omega)
  rw [← Nat.add_assoc] at this
  rw [this]
  congr 2
  rw [getElem!_pos (xs.drop k) j (by rw [List.length_drop]; omega), List.getElem_drop, getElem!_pos xs (k + j) (by omega)]

theorem OwnI.of_row (h : w.ownsRow B E 1 v xs.length (xs.map (Value.int .i64))) (hne : 0 < xs.length) : OwnI E w B v xs := by
  rcases h.2 with ⟨_, h⟩ | ⟨g, cap, cur, h1, h2, h3, h4, h5, h6, h7⟩
  · omega
  · refine .inr ⟨g, 0, cap, cur.toList, h1, h2, by simpa using h3, hne, h4, by rw [Array.length_toList]; omega, h5, fun j hj => ?_⟩
    have : (cur.toList.take (xs.length * 1))[j]? = (xs.map (Value.int .i64))[j]? := by rw [h7]
    rw [List.getElem?_take_of_lt (by omega)] at this
    rw [Nat.zero_add, this, List.getElem?_map, getElem!_pos xs j hj, List.getElem?_eq_getElem hj]
    rfl

theorem map_cells (xs : List Int) (j : Nat) (u : Value) (h : (xs.map (Value.int .i64))[j]? = some u) : j < xs.length ∧ u = .int .i64 xs[j]! := by
  rw [List.getElem?_map] at h
  cases hj : xs[j]? with
  | none => rw [hj] at h; cases h
  | some x =>
    rw [hj] at h
    injection h with h
    have hlt := (List.getElem?_eq_some_iff.1 hj).1
    exact ⟨hlt, by rw [← h, getElem!_pos xs j hlt, (List.getElem?_eq_some_iff.1 hj).2]⟩

theorem grown_any {own : Option Nat} (h : w.grownBy w' none) : w.grownBy w' own := ⟨h.os, h.tape, h.output, h.size, fun k hk _ => h.block k hk (by simp)⟩

/-- append onto it, of one element. -/
theorem run_append_I {P : Program} (w : World) (t ty : TypeId) (i : TypeInfo) (ht : P.underlying t = some (.slice E)) (hi : P.info? E = some i) (hz : i.zero = some (.int .i64 0)) (hs : i.size = 1) (hb : i.bytes = 8)
    (h : OwnI E w B v xs) (hB : B ≤ w.heap.size) (ab c : Nat) (x : Int) (hx : w.cell? ⟨ab, 0, none⟩ = some (.int .i64 x)) (hl : xs.length ≤ 1000000) :
    ∃ g off cap w', (Builtin.append_ #[t, t] ty #[v, .slice (some ⟨ab, 0, none⟩) 1 c]).run P w = .ok (.slice (some ⟨g, off, none⟩) (xs.length + 1) cap) w' ∧
      OwnI E w' B (.slice (some ⟨g, off, none⟩) (xs.length + 1) cap) (xs ++ [x]) ∧ w.grownBy w' v.ownBlock ∧ (v.ownBlock = some g ∨ w.heap.size ≤ g) := by
  have hnews : ∀ j u, [Value.int .i64 x][j]? = some u → w.cell? ((⟨ab, 0, none⟩ : Addr).add j) = some u := by
    intro j u hu
    cases j with
    | zero => injection hu with hu; rw [← hu, Addr.add_lit]; exact hx
    | succ j => cases hu
  have h63 : xs.length + 1 ≤ maxLen := by simp only [maxLen]; omega
  have hby : (xs.length + 1) * 8 ≤ 140737488355328 := by omega
  have one : ∀ u ∈ [Value.int .i64 x], u.oneCell' = true := by simp [Value.oneCell']
  -- a new row
  have fin : ∀ v' w1, w1.ownsRow w.heap.size E 1 v' (xs.length + 1) (xs.map (Value.int .i64) ++ [.int .i64 x]) → ∃ g off cap, v' = .slice (some ⟨g, off, none⟩) (xs.length + 1) cap ∧ OwnI E w1 w.heap.size v' (xs ++ [x]) := by
    intro v' w1 ho
    have ho' : w1.ownsRow w.heap.size E 1 v' (xs ++ [x]).length ((xs ++ [x]).map (Value.int .i64)) := by simpa using ho
    have := OwnI.of_row ho' (by simp)
    obtain ⟨g, off, cap, e, _⟩ := this.form (by simp)
    exact ⟨g, off, cap, by rw [e]; simp, this⟩
  rcases h with ⟨rfl, rfl⟩ | ⟨g, off, cap, cur, rfl, h2, h3, h4, h5, h6, h7, h8⟩
  · obtain ⟨v', w1, hr, r1, r2, _, r3⟩ := run_append_own_at (P := P) w w.heap.size t ty E i (.int .i64 0) 1 8 ht hi hz hs hb rfl (by decide) (.slice none 0 0) 0 [] (World.ownsRow_nil w _ E 1) ⟨ab, 0, none⟩ 1 c [.int .i64 x] rfl hnews one (by simpa using h63) (by omega) (Nat.le_refl _)
    obtain ⟨g, off, cap, e, ho⟩ := fin v' w1 (by simpa using r1)
    refine ⟨g, off, cap, w1, by rw [hr, e], by rw [← e]; exact ho.up hB, r2, .inr ?_⟩
    rcases r3 with r3 | r3
    · rw [e] at r3; cases r3
    · rw [e] at r3; exact Nat.le_of_eq (by simpa [Value.ownBlock] using r3.symm)
  · by_cases hroom : xs.length + 1 ≤ cap
    · have hr := run_append_room_cells (P := P) w t ty E i ht hi g off xs.length cap ⟨ab, 0, none⟩ 1 c [.int .i64 x] (by rw [hs]; rfl) hnews one hroom
        (fun j hj => by
          have : j = 0 := by simpa using hj
          subst this
          rw [hs]
          simp only [Nat.mul_one, Nat.add_zero, World.cell?, h3]
          simp
          omega)
        (fun j hj => by simp [World.frozen?, h3])
      rw [hs, Nat.mul_one] at hr
      refine ⟨g, off, cap, _, hr, .inr ⟨g, off, cap, cur.set (off + xs.length) (.int .i64 x), by simp, h2, heap_set h3 _ _, by simp, by simpa using hroom, by rw [List.length_set]; exact h6, h7, fun j hj => ?_⟩, ?_, .inl rfl⟩
      · have hj' : j < xs.length + 1 := by simpa using hj
        rw [getElem!_pos (xs ++ [x]) j hj]
        by_cases e : j = xs.length
        · subst e; rw [List.getElem?_set_self (by omega)]; simp
        · rw [List.getElem?_set_ne (by omega), h8 j (by omega), getElem!_pos xs j (by omega), List.getElem_append_left (by omega)]
      · refine ⟨rfl, rfl, rfl, ?_, fun k hk hne => ?_⟩
        · show w.heap.size ≤ (w.setCell _ _).heap.size
          simp [World.setCell]
        · show (w.setCell ⟨g, off + xs.length, none⟩ _).heap[k]? = _
          exact Below.heap_setCell _ _ _ _ (fun e => hne (by rw [e]; rfl))
    · obtain ⟨v', w1, hr, r1, r2⟩ := run_append_arg_grows (P := P) w t ty E i (.int .i64 0) 1 8 ht hi hz hs hb rfl (by decide) ⟨g, off, none⟩ xs.length cap (xs.map (Value.int .i64)) (by simp)
        (fun j u hu => by
          obtain ⟨hj, rfl⟩ := map_cells xs j u hu
          rw [Addr.add_lit]
          simp [World.cell?, h3, h8 j hj]) ⟨ab, 0, none⟩ 1 c [.int .i64 x] rfl hnews (by omega) h63 hby
      obtain ⟨g', off', cap', e, ho⟩ := fin v' w1 r1
      refine ⟨g', off', cap', w1, by rw [hr, e], by rw [← e]; exact ho.up hB, grown_any r2, .inr ?_⟩
      rw [e] at ho
      exact (ho.own rfl).1

/-- Ahead of an append: the element boxed. -/
theorem app_pre {W wr : World} {B0 : Nat} (hb : Below B0 w wr) (hB : B0 ≤ w.heap.size) (ho : OwnI E wr B0 v xs) (hW : Below wr.heap.size wr W) (y : Int) (T : TypeId) :
    OwnI E (W.alloc (.cells #[.int .i64 y] T)) B0 v xs ∧ B0 ≤ (W.alloc (.cells #[.int .i64 y] T)).heap.size ∧ (W.alloc (.cells #[.int .i64 y] T)).cell? ⟨W.heap.size, 0, none⟩ = some (.int .i64 y) := by
  refine ⟨ho.below (hW.alloc hW.size _), ?_, ?_⟩
  · have h1 := hb.size; have h2 := hW.size; rw [World.size_alloc]; omega
  · have := heap_alloc_new W (.cells #[.int .i64 y] T)
    simp only [World.cell?, this]
    rfl
/-- Behind it. -/
theorem app_post {W wr w1 : World} {B0 : Nat} (hb : Below B0 w wr) (hB : B0 ≤ w.heap.size) (ho : OwnI E wr B0 v xs) (hW : Below wr.heap.size wr W) {o : Obj} (G : (W.alloc o).grownBy w1 v.ownBlock) : Below B0 w w1 := by
  have h1 := hb.size
  have h2 := hW.size
  refine ((hb.trans (hW.mono (by omega))).alloc (by omega) o).grown G (by rw [World.size_alloc]; omega) fun k hk => (ho.own hk).1
end Go.Proofs.YtchnhjffpldpiaaDoor
