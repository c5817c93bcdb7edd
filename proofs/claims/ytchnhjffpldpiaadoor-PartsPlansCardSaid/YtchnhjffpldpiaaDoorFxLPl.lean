/- PartsPlans returns true for every input, and each argument reads behind the call as it read ahead of it. Conditions: the card's own alone (when the call begins, the two listed variables, parts.store and parts.scrap, read as their initialisers lay them; what comes in lies within the form's reach). Above: the walks and the contract; here: the closed facts, the row and the card. -/
import Derived.Test.YtchnhjffpldpiaaDoorFp
import Derived.Test.YtchnhjffpldpiaaDoorRwLPl
import Derived.Test.YtchnhjffpldpiaaDoorCards
import Derived.Test.YtchnhjffpldpiaaDoorTie
namespace Go.Proofs.YtchnhjffpldpiaaDoor
open Go Go.ChangeShapes Go.WideShapes Go.ChangeAt Go.RowKit
namespace partsPlans
set_option maxRecDepth 100000
theorem k0 : (Rows.partsPlansRow.wf (OpenSpec.ofChange (OpenSpec.ofChange Rows.partsPlansSpec).bare)) = true := by kernel_rfl
theorem k3 : (Tryd.f13.params.all (Tryd.pinned.checked.prog.readableRec ·)) = true := by kernel_rfl
theorem k4 : (namedTie Tryd.pinned.checked.prog Rows.partsPlansRow.named (OpenSpec.ofChange Rows.partsPlansSpec).bare.vars) = true := by kernel_rfl
theorem k5 : ((Rows.partsPlansRow.stops == [])) = true := by kernel_rfl
theorem k7 : ((Rows.partsPlansRow.knobs == [])) = true := by kernel_rfl
theorem k9 : ((Rows.partsPlansRow.inPlace == Tryd.pinned.checked.prog.inPlace 13)) = true := by kernel_rfl
theorem k10 : ((Rows.partsPlansRow.unfollowed == Tryd.pinned.checked.prog.unfollowed 13)) = true := by kernel_rfl
theorem k11 : ((Rows.partsPlansRow.recurses == Tryd.pinned.checked.prog.recurses 13)) = true := by kernel_rfl
theorem k12 : ((Rows.partsPlansRow.named == Tryd.pinned.checked.prog.varsNamed 13)) = true := by kernel_rfl
theorem k13 : ((Rows.partsPlansRow.maps == (Tryd.f13.params.toList ++ (OpenSpec.ofChange Rows.partsPlansSpec).bare.plain.varTypes Tryd.pinned.checked.prog).any (Tryd.pinned.checked.prog.mapsRec ·))) = true := by kernel_rfl
theorem k14 : ((Rows.partsPlansRow.ifaces == (Tryd.f13.params.toList ++ (OpenSpec.ofChange Rows.partsPlansSpec).bare.plain.varTypes Tryd.pinned.checked.prog).any (Tryd.pinned.checked.prog.ifacesRec ·))) = true := by kernel_rfl
theorem k15 : ((Rows.partsPlansRow.mapsOut == Tryd.pinned.checked.prog.mapsAmong Tryd.f13.resultTypes.toList)) = true := by kernel_rfl
theorem k16 : ((Rows.partsPlansRow.loops == (Tryd.f13.params.toList ++ (OpenSpec.ofChange Rows.partsPlansSpec).bare.plain.varTypes Tryd.pinned.checked.prog).any (Tryd.pinned.checked.prog.loopsFrom ·))) = true := by kernel_rfl
theorem k17 : ((Rows.partsPlansRow.wideKeys == (Tryd.f13.params.toList ++ (OpenSpec.ofChange Rows.partsPlansSpec).bare.plain.varTypes Tryd.pinned.checked.prog ++ Tryd.f13.resultTypes.toList).any (Tryd.pinned.checked.prog.wideKeysFrom ·))) = true := by kernel_rfl
theorem k18 : ((OpenSpec.ofChange Rows.partsPlansSpec).bare.vars.all (Tryd.pinned.checked.prog.varReadable ·)) = true := by kernel_rfl
theorem k19 : (Tryd.f13.resultTypes.all (fun t => Tryd.pinned.checked.prog.readableRec t && decide (t < Tryd.pinned.checked.prog.types.size))) = true := by kernel_rfl
theorem k20 : ((Rows.partsPlansRow.ifacesOut == Tryd.f13.resultTypes.toList.any (Tryd.pinned.checked.prog.ifacesRec ·))) = true := by kernel_rfl
theorem k21 : ((Rows.partsPlansRow.loopsOut == Tryd.f13.resultTypes.toList.any (Tryd.pinned.checked.prog.loopsFrom ·))) = true := by kernel_rfl
theorem k22 : ((Rows.partsPlansRow.plainKeys == Tryd.pinned.checked.prog.plainKeys)) = true := by kernel_rfl
theorem k23 : (Rows.partsPlansRow.shortTexts.isNone) = true := by kernel_rfl
theorem k26 : ((Rows.partsPlansRow.lifted == Tryd.pinned.checked.prog.liftsFinal)) = true := by kernel_rfl
theorem k27 : ((Tryd.pinned.checked.prog.make == some Rows.partsPlansRow.make)) = true := by kernel_rfl
theorem k28 : ((Rows.partsPlansRow.kinds == (if Rows.partsPlansRow.domain.isEmpty then [] else Tryd.f13.params.toList.map fun t => match Tryd.pinned.checked.prog.underlying t with | some (.int k) => some k | _ => none))) = true := by kernel_rfl
theorem k29 : ((Rows.partsPlansRow.pinned == Rows.partsPlansRow.pinnedBy)) = true := by kernel_rfl
theorem k30 : ((Rows.partsPlansRow.veiled == (Tryd.f13.params.toList ++ (OpenSpec.ofChange Rows.partsPlansSpec).bare.plain.varTypes Tryd.pinned.checked.prog ++ Tryd.f13.resultTypes.toList).any (Tryd.pinned.checked.prog.veiledRec ·))) = true := by kernel_rfl
theorem k31 : (Rows.partsPlansRow.veiledFits Tryd.pinned.checked.prog Tryd.f13.params.toList (Tryd.f13.params.toList ++ (OpenSpec.ofChange Rows.partsPlansSpec).bare.plain.varTypes Tryd.pinned.checked.prog ++ Tryd.f13.resultTypes.toList)) = true := by kernel_rfl
theorem closed : joinedFacts Tryd.pinned.checked.prog 13 Tryd.f13 (OpenSpec.ofChange Rows.partsPlansSpec).bare Rows.partsPlansRow = true := by
  unfold joinedFacts
  simp only [Bool.and_eq_true]
  exact ⟨⟨⟨⟨⟨⟨⟨⟨⟨⟨⟨⟨⟨⟨⟨⟨⟨⟨⟨⟨⟨⟨⟨⟨⟨⟨⟨⟨⟨⟨⟨k0, facts.k1⟩, facts.k2⟩, k3⟩, k4⟩, k5⟩, facts.k6⟩, k7⟩, facts.k8⟩, k9⟩, k10⟩, k11⟩, k12⟩, k13⟩, k14⟩, k15⟩, k16⟩, k17⟩, k18⟩, k19⟩, k20⟩, k21⟩, k22⟩, k23⟩, facts.k24⟩, facts.k25⟩, k26⟩, k27⟩, k28⟩, k29⟩, k30⟩, k31⟩
theorem named : Tryd.prog.funcNamed "swashplate/swashplatelaw09.PartsPlans" = some 13 := by kernel_rfl
theorem instance_ : Tryd.f13.isInstance Tryd.pinned.checked.prog Rows.partsPlansRow.origin Rows.partsPlansRow.targs := of_decide_eq_true (by kernel_rfl)
theorem wrapper_ : Tryd.f13.isWrapper Tryd.pinned.checked.prog Rows.partsPlansRow.wrapper Rows.partsPlansRow.mainSum := by
  unfold Func.isWrapper; first | (rw [if_pos (by decide +kernel)]; kernel_rfl) | (rw [if_neg (by decide +kernel)]; exact ⟨rfl, rfl⟩)

theorem reads (os : Os) {H : Type} (enc : TypeId × Value → H) : ∃ places, DataW.whole enc Tryd.prog ((laidWorld os).forCall (fun _ _ => 0) ⟨#[], #[.slice none 0 0, .slice none 0 0], []⟩).memory Tryd.f13.params.toList Rows.partsPlansSpec.vars false (#[.slice none 0 0, .slice none 0 0] : Array Value).toList 8 = some ([.nil, .nil], [], places) :=
  ⟨[], by kernel_rfl⟩
theorem witness (os : Os) (H : Type) (enc : TypeId × Value → H) : ∃ (w : World) (tape : Tape) (i : Input), w.os = os ∧ (w.forCall tape i).Shaped Tryd.prog ∧ i.vars = [] ∧ Input.okWide Tryd.prog (w.forCall tape i) .any w.heap.size 13 i ∧
      (OpenSpec.ofChange Rows.partsPlansSpec).preRow enc Tryd.prog Tryd.f13 Rows.partsPlansRow.domain false Rows.partsPlansRow.laid (w.forCall tape i).memory i.args ∧ ({} : Assume).holds Tryd.prog (lone (Frame.enter Tryd.prog 13 i.args .normal) [] (w.forCall tape i)) := by
  obtain ⟨places, hx⟩ := reads os enc
  exact witness_row_at (enc := enc) (C := Tryd.checked) false (laidWorld os) #[.slice none 0 0, .slice none 0 0] rfl (by kernel_rfl) (by kernel_rfl) (by kernel_rfl)
      (OpenSpec.preRow_of_cond 8 hx (by kernel_rfl) (fun k hk => by cases hk) (by kernel_rfl) (laid_met os _))
theorem lifted (os : Os) (started : os.Started) (H : Type) (enc : TypeId × Value → H) (F : Stop.Interp) :
    ReturnsInHanded {} Tryd.checked os 13 .any ((OpenSpec.ofChange Rows.partsPlansSpec).preRow enc Tryd.prog Tryd.f13 Rows.partsPlansRow.domain false Rows.partsPlansRow.laid) (((OpenSpec.ofChange Rows.partsPlansSpec).at F).post enc Tryd.prog Tryd.f13 false true false false) := by
  refine returnsInHanded_of_row (C := Tryd.checked) (s := OpenSpec.ofChange Rows.partsPlansSpec) own started (by kernel_rfl) Tryd.func13 (witness os H enc) ?_
  intro W base args ds gs before hval hW _ _ _ hL _ _
  exact contract H enc W base args ds gs before hval hW hL
theorem said : Rows.PartsPlansSaid :=
  OpenClaim.holds_of_cond 13 Tryd.f13 rfl rfl rfl rfl rfl rfl rfl ⟨rfl, rfl, rfl, rfl, rfl⟩ rfl rfl rfl rfl rfl named Tryd.func13 closed instance_ wrapper_
    (fun os started H enc _ F => by rw [OpenClaim.pre_eq_preRow]; exact lifted os started H enc F)

theorem looks_ : false = Tryd.pinned.checked.prog.looks [] := by kernel_rfl
theorem stand_ : (Tryd.f13.params.toList.all fun t => !Tryd.pinned.checked.prog.wantsStandIn t) = true := by kernel_rfl
theorem plain (f : FuncId) (fn : Func) (hf : Tryd.pinned.checked.prog.funcNamed "swashplate/swashplatelaw09.PartsPlans" = some f) (hfn : Tryd.pinned.checked.prog.funcs[f]? = some fn) :
    false = Tryd.pinned.checked.prog.looks [] ∧ ∀ (j : Nat) t, fn.params[j]? = some t → Tryd.pinned.checked.prog.wantsStandIn t = false := by
  obtain rfl : f = 13 := Option.some.inj (named.symm.trans hf) |>.symm
  obtain rfl : fn = Tryd.f13 := (Option.some.inj (Tryd.func13.symm.trans hfn)).symm
  refine ⟨looks_, fun j t ht => ?_⟩
  have h := List.all_eq_true.1 stand_ t (Array.mem_toList_iff.2 (Array.mem_of_getElem? ht))
  exact of_not h
theorem byText : Rows.partsPlansRow.wfByText (OpenSpec.ofChange Rows.partsPlansSpec) = true := by kernel_rfl
theorem mainIs_ : Tryd.pinned.checked.prog.mainIs = some (Rows.partsPlansCard.stood.harness.1, Rows.partsPlansCard.stood.harness.2.toList) := by kernel_rfl
theorem goes_ : false = Rows.partsPlansRow.goesBy Tryd.pinned.checked.prog := by kernel_rfl
theorem card : Rows.PartsPlansCardSaid :=
  Claim7.holds_tied_plain_at .later [] _ _ _ _ said (fun _ h => by cases h) byText (fun _ h => by cases h) partsPlans_row_tie rfl ⟨rfl, rfl⟩ mainIs_ rfl plain goes_
end partsPlans
end Go.Proofs.YtchnhjffpldpiaaDoor
