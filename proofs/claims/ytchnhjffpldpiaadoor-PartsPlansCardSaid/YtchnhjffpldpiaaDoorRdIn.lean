/- Slices that came in, of elements of one form: they read as lists. No walk. -/
import Derived.Test.YtchnhjffpldpiaaDoorRw
import Derived.Lib.SmallJoins
import Derived.Deep.Slices
namespace Go.Proofs.YtchnhjffpldpiaaDoor
open Go Go.ChangeShapes Go.WideShapes Go.ChangeAt Go.RowKit Go.Deep

theorem okLit {x : Int} (h : (Lit.int .i64 x).wf = true) : -9223372036854775808 ≤ x ∧ x ≤ 9223372036854775807 := by
  have m1 : IntKind.i64.min = -9223372036854775808 := rfl
  have m2 : IntKind.i64.max = 9223372036854775807 := rfl
  simpa [Lit.wf, m1, m2] using h

set_option maxRecDepth 100000 in
theorem rd_slice {H : Type} {encH : TypeId × Value → H} {W : World} {r : Reach} {b0 : Nat} {t e : TypeId} {v : Value} {d : DataW H} {p : List MemPlace} {α : Type} [Inhabited α] {enc : α → List Value} {k : Nat} (ok : α → Prop)
    (ht : Tryd.prog.underlying t = some (.slice e)) (hk : Tryd.prog.cellsOf e = k) (hk0 : 0 < k)
    (dec : ∀ n cs y, DataW.trod encH Tryd.prog W 0 (fun _ => true) true n e cs = some y → cs.length = k → ∃ x, cs = enc x ∧ ok x)
    (hv : Value.okWide Tryd.prog W r b0 t v) (h : DataW.Trod encH Tryd.prog W 0 (fun _ => true) true t v d p) :
    ∃ a n c xs, v = .slice a n c ∧ Rd enc k W W.heap.size a n xs ∧ ∀ x ∈ xs, ok x := by
  obtain ⟨a0, n, c, rfl⟩ := okWide_slice ht hv
  obtain ⟨fuel, hf⟩ := h
  rcases open_slice ht hf with ⟨hcs, _⟩ | ⟨a, len, cap, m, n', D, Pl, hcs, _, hl, hm, hmm, _, hi⟩
  · have : n = 0 := by simp [Value.cells] at hcs; exact hcs.2.1
    subst this
    exact ⟨a0, 0, c, [], rfl, ⟨rfl, by omega, 0, 0, fun h => by omega, fun j hj => by omega⟩, fun x hx => by cases hx⟩
  · simp [Value.cells] at hcs
    obtain ⟨rfl, e2, e3⟩ := hcs
    subst e2
    subst e3
    simp only [if_true] at hmm
    subst hmm
    have ex : ∀ i, ∃ x : α, i < n → (∀ j u, (enc x)[j]? = some u → W.cell? (a.add (i * k + j)) = some u) ∧ ok x ∧ (enc x).length = k := fun i => by
      by_cases hin : i < n
      · obtain ⟨cs', h1, h2⟩ := hi i (by omega)
        rw [hk] at h1
        obtain ⟨_, hcl, hat⟩ := World.cells?_some h1
        obtain ⟨x, rfl, hok⟩ := dec _ _ _ h2 hcl
        refine ⟨x, fun _ => ⟨fun j u hu => ?_, hok, hcl⟩⟩
        have hj : j < k := by have := (List.getElem?_eq_some_iff.1 hu).1; omega
        rw [← Go.Deep.add_add, hat j hj]
        exact hu
      · exact ⟨default, fun h => absurd h hin⟩
    obtain ⟨f, hf2⟩ : ∃ f : Nat → α, ∀ i, i < n → (∀ j u, (enc (f i))[j]? = some u → W.cell? (a.add (i * k + j)) = some u) ∧ ok (f i) ∧ (enc (f i)).length = k :=
      ⟨fun i => Classical.choose (ex i), fun i => Classical.choose_spec (ex i)⟩
    clear ex
    obtain ⟨b, off, spot⟩ := a
    have hsp : 0 < n → spot = none := fun h0 => by
      obtain ⟨h1, _, h2⟩ := hf2 0 h0
      have h3 := h1 0 _ (List.getElem?_eq_getElem (by omega))
      rw [Nat.zero_mul, Nat.add_zero] at h3
      simpa [Addr.add] using World.cell?_spot h3
    refine ⟨_, _, _, (List.range n).map f, rfl, ⟨by simp, by unfold maxLen at hm; omega, b, off, fun h0 => ?_, fun j hj i u hu => ?_⟩, fun x hx => ?_⟩
    · obtain ⟨h1, _, h2⟩ := hf2 0 h0
      have h3 := h1 0 _ (List.getElem?_eq_getElem (by omega))
      rw [Nat.zero_mul, Nat.add_zero] at h3
      have hspot : spot = none := by simpa [Addr.add] using World.cell?_spot h3
      subst hspot
      refine ⟨rfl, ?_⟩
      by_cases hb : b < W.heap.size
      · exact hb
      · have e : W.heap[b]? = none := by simp; omega
        simp [Addr.add, World.cell?, e] at h3
    · obtain ⟨h1, _, h2⟩ := hf2 j hj
      have h5 : ((List.range n).map f)[j]! = f j := by
        rw [getElem!_pos _ j (by simp; exact hj)]; simp
      rw [h5] at hu
      have h3 := h1 i u hu
      have hspot := hsp (by omega)
      subst hspot
      rw [add_plain, ← Nat.add_assoc] at h3
      exact h3
    · obtain ⟨i, hi', rfl⟩ := List.mem_map.1 hx
      exact (hf2 i (List.mem_range.1 hi')).2.1

theorem dec_arr2 {H : Type} {encH : TypeId × Value → H} {W : World} {t : TypeId} (ht : Tryd.prog.underlying t = some (.array 2 3)) (n : Nat) (cs : List Value) (y : DataW H × List MemPlace)
    (h : DataW.trod encH Tryd.prog W 0 (fun _ => true) true n t cs = some y) (hl : cs.length = 2) : ∃ x : Int × Int, cs = encPair x ∧ ((-9223372036854775808 ≤ x.1 ∧ x.1 ≤ 9223372036854775807) ∧ (-9223372036854775808 ≤ x.2 ∧ x.2 ≤ 9223372036854775807)) := by
  obtain ⟨xs, m, _, _, _, hlen, hx⟩ := DataW.trod_array ht h
  rw [cellsInt] at hx
  match cs, hl with
  | [c0, c1], _ =>
    match xs, hlen with
    | [y0, y1], _ =>
      have h0 := hx 0 (by omega)
      have h1 := hx 1 (by omega)
      obtain ⟨x, e0, _, w0⟩ := DataW.trod_int Tryd.underlying3 (show DataW.trod encH Tryd.prog W 0 (fun _ => true) true m 3 [c0] = some y0 from h0)
      obtain ⟨z, e1, _, w1⟩ := DataW.trod_int Tryd.underlying3 (show DataW.trod encH Tryd.prog W 0 (fun _ => true) true m 3 [c1] = some y1 from h1)
      simp only [List.cons.injEq, and_true] at e0 e1
      subst e0 e1
      exact ⟨(x, z), rfl, okLit w0, okLit w1⟩
theorem cellsPair : Tryd.prog.cellsOf 30 = 2 := by kernel_rfl
theorem dec_int {H : Type} {encH : TypeId × Value → H} {W : World} (n : Nat) (cs : List Value) (y : DataW H × List MemPlace)
    (h : DataW.trod encH Tryd.prog W 0 (fun _ => true) true n 3 cs = some y) (hl : cs.length = 1) : ∃ x : Int, cs = encInt x ∧ (-9223372036854775808 ≤ x ∧ x ≤ 9223372036854775807) := by
  match cs, hl with
  | [c0], _ =>
    obtain ⟨x, e0, _, w0⟩ := DataW.trod_int Tryd.underlying3 h
    simp only [List.cons.injEq, and_true] at e0
    subst e0
    exact ⟨x, rfl, okLit w0⟩
set_option maxRecDepth 100000 in
/-- A slice of integers that came in. -/
theorem rd_ints2 {H : Type} {enc : TypeId × Value → H} {W : World} {r : Reach} {b0 : Nat} {v : Value} {d : DataW H} {p : List MemPlace} (hv : Value.okWide Tryd.prog W r b0 22 v) (h : DataW.Trod enc Tryd.prog W 0 (fun _ => true) true 22 v d p) :
    ∃ a n c xs, v = .slice a n c ∧ Rd encInt 1 W W.heap.size a n xs ∧ ∀ x ∈ xs, (-9223372036854775808 ≤ x ∧ x ≤ 9223372036854775807) :=
  rd_slice _ Tryd.underlying22 cellsInt (by omega) dec_int hv h
set_option maxRecDepth 100000 in
/-- A slice of pairs that came in. -/
theorem rd_pairs {H : Type} {enc : TypeId × Value → H} {W : World} {r : Reach} {b0 : Nat} {v : Value} {d : DataW H} {p : List MemPlace} (hv : Value.okWide Tryd.prog W r b0 26 v) (h : DataW.Trod enc Tryd.prog W 0 (fun _ => true) true 26 v d p) :
    ∃ a n c xs, v = .slice a n c ∧ Rd encPair 2 W W.heap.size a n xs ∧ ∀ x ∈ xs, ((-9223372036854775808 ≤ x.1 ∧ x.1 ≤ 9223372036854775807) ∧ (-9223372036854775808 ≤ x.2 ∧ x.2 ≤ 9223372036854775807)) :=
  rd_slice _ Tryd.underlying26 cellsPair (by omega) (dec_arr2 Tryd.underlying30) hv h
end Go.Proofs.YtchnhjffpldpiaaDoor
