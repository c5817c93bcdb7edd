/- PartsCounted: for every input it answers true, and the input reads behind the call as it read ahead of it. -/
import Derived.Test.YtchnhjffpldpiaaDoorRw
import Derived.Test.YtchnhjffpldpiaaDoorPC
import Derived.Lib.SmallJoins
namespace Go.Proofs.YtchnhjffpldpiaaDoor
open Go Go.ChangeShapes Go.WideShapes Go.ChangeAt Go.RowKit

set_option maxRecDepth 100000 in
/-- A slice of integers that came in. -/
theorem rd_ints {H : Type} {enc : TypeId × Value → H} {W : World} {r : Reach} {base b0 : Nat} {v : Value} {d : DataW H} {p : List MemPlace} (hv : Value.okWide Tryd.prog W r b0 22 v) (h : DataW.Trod enc Tryd.prog W base (fun _ => true) true 22 v d p) :
    ∃ a n c xs, v = .slice a n c ∧ Rd encInt 1 W W.heap.size a n xs := by
  obtain ⟨a0, n, c, rfl⟩ := okWide_slice Tryd.underlying22 hv
  obtain ⟨fuel, hf⟩ := h
  rcases open_ints Tryd.underlying22 Tryd.underlying3 cellsInt hf with ⟨hcs, _⟩ | ⟨a, n', c', zs, hcs, _, hl, hm, hz, _, hcell, _⟩
  · have : n = 0 := by simp [Value.cells] at hcs; exact hcs.2.1
    subst this
    exact ⟨a0, 0, c, [], rfl, rfl, by omega, 0, 0, fun h => by omega, fun j hj => by omega⟩
  · simp [Value.cells] at hcs
    obtain ⟨rfl, rfl, rfl⟩ := hcs
    simp only [if_true] at hz
    obtain ⟨b, off, spot⟩ := a
    have hn : n = (zs.take n).length := by rw [List.length_take]; omega
    refine ⟨_, n, c, zs.take n, rfl, hn, by unfold maxLen at hm; omega, b, off, fun h0 => ?_, fun j hj i u hu => ?_⟩
    · have h1 := hcell 0 (by omega)
      have hspot : spot = none := by simpa [Addr.add] using World.cell?_spot h1
      subst hspot
      refine ⟨rfl, ?_⟩
      by_cases hb : b < W.heap.size
      · exact hb
      · have e : W.heap[b]? = none := by simp; omega
        simp [Addr.add, World.cell?, e] at h1
    · have h1 := hcell j (by omega)
      have hspot : spot = none := by
        have := World.cell?_spot (hcell 0 (by omega))
        simpa [Addr.add] using this
      subst hspot
      rw [add_plain] at h1
      cases i with
      | succ i => cases hu
      | zero =>
        injection hu with hu
        rw [← hu, Nat.mul_one, Nat.add_zero, h1]
        congr 2
        rw [getElem!_pos (zs.take n) j (by omega), List.getElem_take]
        simp only [List.getD]
        rw [List.getElem?_eq_getElem (by omega)]
        rfl

theorem cellsMore : Tryd.prog.cellsOf 24 = 2 := by kernel_rfl

namespace partsCounted
set_option maxRecDepth 100000 in
theorem contract (H : Type) (enc : TypeId × Value → H) (W : World) (base : Nat) (args : Array Value) (ds gs : List (DataW H)) (before : List MemPlace)
    (hval : ∀ (j : Nat) t v, Tryd.f3.params[j]? = some t → args[j]? = some v → Value.okWide Tryd.prog W .any base t v)
    (hW : DataW.Whole enc Tryd.prog Tryd.f3.params.toList Rows.partsCountedSpec.vars false W args.toList ds gs before) (hL : laidMetH Tryd.prog laid2 W) :
    Calls Tryd.prog 3 args W fun e W' => ∃ v, e = .returned v ∧ Rows.partsCountedSpec.post enc Tryd.prog Tryd.f3 false true false false W args v W' := by
  have hW' := hW
  obtain ⟨p, q, hA0, hV, rfl, _, _⟩ := hW
  have hA : DataW.TrodAll enc Tryd.prog W 0 (fun _ => true) true Tryd.f3.params.toList args.toList ds p := hA0
  rw [Tryd.params3] at hA hval
  obtain ⟨v0, v1, d0, d1, p0, p1, rfl, rfl, rfl, h0, h1⟩ := trodAll_two hA
  obtain ⟨a, n, c, xs, rfl, hR⟩ := rd_ints (hval 0 _ v0 rfl rfl) h0
  obtain ⟨c0, c1, y0, y1, m, rfl, rfl, rfl, hy0, hy1⟩ := Joins.open_agg2 Tryd.underlying24 (by kernel_rfl) cellsMore (hval 1 _ v1 rfl rfl) h1
  obtain ⟨x, e0, rfl, wx⟩ := DataW.trod_int Tryd.underlying3 hy0
  obtain ⟨y, e1, rfl, _⟩ := DataW.trod_int Tryd.underlying3 hy1
  simp only [List.cons.injEq, and_true] at e0 e1
  subst e0 e1
  have hx : -9223372036854775808 ≤ x ∧ x ≤ 9223372036854775807 := by
    have m1 : IntKind.i64.min = -9223372036854775808 := rfl
    have m2 : IntKind.i64.max = 9223372036854775807 := rfl
    simpa [Lit.wf, m1, m2] using wx
  have hG := glb_of hL
  have walk : Calls Tryd.prog 3 #[.slice a n c, .agg #[.int .i64 x, .int .i64 y]] W fun e w' => e = .returned (.bool true) ∧ Below W.heap.size W w' := by
    by_cases hn : 300 ≤ n
    · exact counted_long a n c x y W hn hG
    · by_cases he : seriesE xs = 0
      · exact counted_ok xs a n c x y W _ (Nat.le_refl _) hR (by omega) hG he hx.1 hx.2
      · exact counted_err xs a n c x y W _ (Nat.le_refl _) hR (by omega) hG he
  refine walk.mono fun e W' ⟨he, hb⟩ => ?_
  subst he
  exact ⟨_, rfl, law_post laidOut Tryd.underlying4 (by kernel_rfl) (by kernel_rfl) rfl hW' rfl hb⟩

end partsCounted
end Go.Proofs.YtchnhjffpldpiaaDoor
