/- Arrays of two integers and slices of spans that came in. No walk. -/
import Derived.Test.YtchnhjffpldpiaaDoorRdIn
namespace Go.Proofs.YtchnhjffpldpiaaDoor
open Go Go.ChangeShapes Go.WideShapes Go.ChangeAt Go.RowKit Go.Deep

set_option maxRecDepth 100000
def I64 (x : Int) : Prop := -9223372036854775808 ≤ x ∧ x ≤ 9223372036854775807
theorem rd_arr2 {H : Type} {enc : TypeId × Value → H} {W : World} {r : Reach} {b0 : Nat} {v : Value} {d : DataW H} {p : List MemPlace} (hv : Value.okWide Tryd.prog W r b0 30 v) (h : DataW.Trod enc Tryd.prog W 0 (fun _ => true) true 30 v d p) :
    ∃ x y : Int, v = .agg #[.int .i64 x, .int .i64 y] ∧ I64 x ∧ I64 y := by
  have ht := Tryd.underlying30
  simp only [Value.okWide, ht] at hv
  obtain ⟨cs, rfl, hc, _⟩ := hv
  obtain ⟨fuel, hf⟩ := h
  obtain ⟨l⟩ := cs
  obtain ⟨x, e, h1, h2⟩ := dec_arr2 ht fuel _ _ hf (by simpa [Value.cells] using hc.trans cellsPair)
  have e2 : l = encPair x := by simpa [Value.cells] using e
  subst e2
  exact ⟨x.1, x.2, rfl, h1, h2⟩
theorem dec_span {H : Type} {encH : TypeId × Value → H} {W : World} (n : Nat) (cs : List Value) (y : DataW H × List MemPlace)
    (h : DataW.trod encH Tryd.prog W 0 (fun _ => true) true n 91 cs = some y) (hl : cs.length = 2) : ∃ x : Int × Int, cs = encPair x ∧ (I64 x.1 ∧ I64 x.2) := by
  obtain ⟨ys, n', hn', hy, hlen, hyl, hf⟩ := DataW.trod_struct Tryd.underlying91 h
  match cs, hl with
  | [c0, c1], _ =>
    match ys, hyl with
    | [y0, y1], _ =>
      have h0 : DataW.trod encH Tryd.prog W 0 (fun _ => true) true n' 3 (([c0, c1].drop 0).take (Tryd.prog.cellsOf 3)) = some y0 := hf 0 _ rfl
      have h1 : DataW.trod encH Tryd.prog W 0 (fun _ => true) true n' 3 (([c0, c1].drop 1).take (Tryd.prog.cellsOf 3)) = some y1 := hf 1 _ rfl
      rw [cellsInt] at h0 h1
      obtain ⟨x, e0, _, w0⟩ := DataW.trod_int Tryd.underlying3 (show DataW.trod encH Tryd.prog W 0 (fun _ => true) true n' 3 [c0] = some y0 from h0)
      obtain ⟨z, e1, _, w1⟩ := DataW.trod_int Tryd.underlying3 (show DataW.trod encH Tryd.prog W 0 (fun _ => true) true n' 3 [c1] = some y1 from h1)
      simp only [List.cons.injEq, and_true] at e0 e1
      subst e0 e1
      exact ⟨(x, z), rfl, okLit w0, okLit w1⟩
theorem cellsSpan : Tryd.prog.cellsOf 91 = 2 := by kernel_rfl
set_option maxRecDepth 100000 in
/-- A slice of spans that came in. -/
theorem rd_spans {H : Type} {enc : TypeId × Value → H} {W : World} {r : Reach} {b0 : Nat} {v : Value} {d : DataW H} {p : List MemPlace} (hv : Value.okWide Tryd.prog W r b0 81 v) (h : DataW.Trod enc Tryd.prog W 0 (fun _ => true) true 81 v d p) :
    ∃ a n c xs, v = .slice a n c ∧ Rd encPair 2 W W.heap.size a n xs ∧ ∀ x ∈ xs, I64 x.1 ∧ I64 x.2 :=
  rd_slice _ Tryd.underlying81 cellsSpan (by omega) dec_span hv h
end Go.Proofs.YtchnhjffpldpiaaDoor
