/- PartsPlans: for every input it answers true, and the input reads behind the call as it read ahead of it. -/
import Derived.Test.YtchnhjffpldpiaaDoorRdIn
import Derived.Test.YtchnhjffpldpiaaDoorLPln
namespace Go.Proofs.YtchnhjffpldpiaaDoor
open Go Go.ChangeShapes Go.WideShapes Go.ChangeAt Go.RowKit

namespace partsPlans
set_option maxRecDepth 100000 in
theorem contract (H : Type) (enc : TypeId × Value → H) (W : World) (base : Nat) (args : Array Value) (ds gs : List (DataW H)) (before : List MemPlace)
    (hval : ∀ (j : Nat) t v, Tryd.f13.params[j]? = some t → args[j]? = some v → Value.okWide Tryd.prog W .any base t v)
    (hW : DataW.Whole enc Tryd.prog Tryd.f13.params.toList Rows.partsPlansSpec.vars false W args.toList ds gs before) (hL : laidMetH Tryd.prog laid2 W) :
    Calls Tryd.prog 13 args W fun e W' => ∃ v, e = .returned v ∧ Rows.partsPlansSpec.post enc Tryd.prog Tryd.f13 false true false false W args v W' := by
  have hW' := hW
  obtain ⟨p, q, hA0, hV, rfl, _, _⟩ := hW
  have hA : DataW.TrodAll enc Tryd.prog W 0 (fun _ => true) true Tryd.f13.params.toList args.toList ds p := hA0
  rw [Tryd.params13] at hA hval
  obtain ⟨v0, v1, d0, d1, p0, p1, rfl, rfl, rfl, h0, h1⟩ := trodAll_two hA
  obtain ⟨a, n, c, xs, rfl, hR, _⟩ := rd_ints2 (hval 0 _ v0 rfl rfl) h0
  obtain ⟨a2, n2, c2, ys, rfl, hS, _⟩ := rd_ints2 (hval 1 _ v1 rfl rfl) h1
  refine (plans_law hR hS (glb_of hL)).mono fun e W' ⟨he, hb⟩ => ?_
  subst he
  exact ⟨_, rfl, law_post laidOut Tryd.underlying4 (by kernel_rfl) (by kernel_rfl) rfl hW' rfl hb⟩
end partsPlans
end Go.Proofs.YtchnhjffpldpiaaDoor
