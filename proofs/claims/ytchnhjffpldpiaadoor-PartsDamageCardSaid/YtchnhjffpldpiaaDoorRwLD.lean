/- PartsDamage: for every input it answers true, and the input reads behind the call as it read ahead of it. -/
import Derived.Test.YtchnhjffpldpiaaDoorRdIn2
import Derived.Test.YtchnhjffpldpiaaDoorLDam
namespace Go.Proofs.YtchnhjffpldpiaaDoor
open Go Go.ChangeShapes Go.WideShapes Go.ChangeAt Go.RowKit

namespace partsDamage
set_option maxRecDepth 100000 in
theorem contract (H : Type) (enc : TypeId × Value → H) (W : World) (base : Nat) (args : Array Value) (ds gs : List (DataW H)) (before : List MemPlace)
    (hval : ∀ (j : Nat) t v, Tryd.f12.params[j]? = some t → args[j]? = some v → Value.okWide Tryd.prog W .any base t v)
    (hW : DataW.Whole enc Tryd.prog Tryd.f12.params.toList Rows.partsDamageSpec.vars false W args.toList ds gs before) (hL : laidMetH Tryd.prog laid2 W) :
    Calls Tryd.prog 12 args W fun e W' => ∃ v, e = .returned v ∧ Rows.partsDamageSpec.post enc Tryd.prog Tryd.f12 false true false false W args v W' := by
  have hW' := hW
  obtain ⟨p, q, hA0, hV, rfl, _, _⟩ := hW
  have hA : DataW.TrodAll enc Tryd.prog W 0 (fun _ => true) true Tryd.f12.params.toList args.toList ds p := hA0
  rw [Tryd.params12] at hA hval
  obtain ⟨v0, v1, v2, d0, d1, d2, p0, p1, p2, rfl, rfl, rfl, h0, h1, h2⟩ := trodAll_three hA
  obtain ⟨a, n, c, xs, rfl, hR, _⟩ := rd_ints2 (hval 0 _ v0 rfl rfl) h0
  obtain ⟨a2, n2, c2, ys, rfl, hS, _⟩ := rd_pairs (hval 1 _ v1 rfl rfl) h1
  obtain ⟨x, y, rfl, _, _⟩ := rd_arr2 (hval 2 _ v2 rfl rfl) h2
  obtain ⟨⟨d, er⟩, hd⟩ : ∃ q, damF xs ys = q := ⟨_, rfl⟩
  have walk : Calls Tryd.prog 12 #[.slice a n c, .slice a2 n2 c2, .agg #[.int .i64 x, .int .i64 y]] W fun e w' => e = .returned (.bool true) ∧ Below W.heap.size W w' := by
    by_cases he : er = 0
    · subst he
      exact damage_yes hR hS (glb_of hL) x y d hd
    · exact damage_no hR hS (glb_of hL) x y d er hd he
  refine walk.mono fun e W' ⟨he, hb⟩ => ?_
  subst he
  exact ⟨_, rfl, law_post laidOut Tryd.underlying4 (by kernel_rfl) (by kernel_rfl) rfl hW' rfl hb⟩
end partsDamage
end Go.Proofs.YtchnhjffpldpiaaDoor
