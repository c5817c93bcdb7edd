/- PartsCounted returns true for every input, and each argument reads behind the call as it read ahead of it. Conditions: the card's own alone (when the call begins, the two listed variables, parts.store and parts.scrap, read as their initialisers lay them; what comes in lies within the form's reach). Above: the walks and the contract; here: the closed facts, the row and the card. -/
import Derived.Test.YtchnhjffpldpiaaDoorFp
import Derived.Test.YtchnhjffpldpiaaDoorRwPC
import Derived.Test.YtchnhjffpldpiaaDoorCards
import Derived.Test.YtchnhjffpldpiaaDoorTie
namespace Go.Proofs.YtchnhjffpldpiaaDoor
open Go Go.ChangeShapes Go.WideShapes Go.ChangeAt Go.RowKit
namespace partsCounted
set_option maxRecDepth 100000
theorem k0 : (Rows.partsCountedRow.wf (OpenSpec.ofChange (OpenSpec.ofChange Rows.partsCountedSpec).bare)) = true := by kernel_rfl
theorem k3 : (Tryd.f3.params.all (Tryd.pinned.checked.prog.readableRec ·)) = true := by kernel_rfl
theorem k4 : (namedTie Tryd.pinned.checked.prog Rows.partsCountedRow.named (OpenSpec.ofChange Rows.partsCountedSpec).bare.vars) = true := by kernel_rfl
theorem k5 : ((Rows.partsCountedRow.stops == [])) = true := by kernel_rfl
theorem k7 : ((Rows.partsCountedRow.knobs == [])) = true := by kernel_rfl
theorem k9 : ((Rows.partsCountedRow.inPlace == Tryd.pinned.checked.prog.inPlace 3)) = true := by kernel_rfl
theorem k10 : ((Rows.partsCountedRow.unfollowed == Tryd.pinned.checked.prog.unfollowed 3)) = true := by kernel_rfl
theorem k11 : ((Rows.partsCountedRow.recurses == Tryd.pinned.checked.prog.recurses 3)) = true := by kernel_rfl
theorem k12 : ((Rows.partsCountedRow.named == Tryd.pinned.checked.prog.varsNamed 3)) = true := by kernel_rfl
theorem k13 : ((Rows.partsCountedRow.maps == (Tryd.f3.params.toList ++ (OpenSpec.ofChange Rows.partsCountedSpec).bare.plain.varTypes Tryd.pinned.checked.prog).any (Tryd.pinned.checked.prog.mapsRec ·))) = true := by kernel_rfl
theorem k14 : ((Rows.partsCountedRow.ifaces == (Tryd.f3.params.toList ++ (OpenSpec.ofChange Rows.partsCountedSpec).bare.plain.varTypes Tryd.pinned.checked.prog).any (Tryd.pinned.checked.prog.ifacesRec ·))) = true := by kernel_rfl
theorem k15 : ((Rows.partsCountedRow.mapsOut == Tryd.pinned.checked.prog.mapsAmong Tryd.f3.resultTypes.toList)) = true := by kernel_rfl
theorem k16 : ((Rows.partsCountedRow.loops == (Tryd.f3.params.toList ++ (OpenSpec.ofChange Rows.partsCountedSpec).bare.plain.varTypes Tryd.pinned.checked.prog).any (Tryd.pinned.checked.prog.loopsFrom ·))) = true := by kernel_rfl
theorem k17 : ((Rows.partsCountedRow.wideKeys == (Tryd.f3.params.toList ++ (OpenSpec.ofChange Rows.partsCountedSpec).bare.plain.varTypes Tryd.pinned.checked.prog ++ Tryd.f3.resultTypes.toList).any (Tryd.pinned.checked.prog.wideKeysFrom ·))) = true := by kernel_rfl
theorem k18 : ((OpenSpec.ofChange Rows.partsCountedSpec).bare.vars.all (Tryd.pinned.checked.prog.varReadable ·)) = true := by kernel_rfl
theorem k19 : (Tryd.f3.resultTypes.all (fun t => Tryd.pinned.checked.prog.readableRec t && decide (t < Tryd.pinned.checked.prog.types.size))) = true := by kernel_rfl
theorem k20 : ((Rows.partsCountedRow.ifacesOut == Tryd.f3.resultTypes.toList.any (Tryd.pinned.checked.prog.ifacesRec ·))) = true := by kernel_rfl
theorem k21 : ((Rows.partsCountedRow.loopsOut == Tryd.f3.resultTypes.toList.any (Tryd.pinned.checked.prog.loopsFrom ·))) = true := by kernel_rfl
theorem k22 : ((Rows.partsCountedRow.plainKeys == Tryd.pinned.checked.prog.plainKeys)) = true := by kernel_rfl
theorem k23 : (Rows.partsCountedRow.shortTexts.isNone) = true := by kernel_rfl
theorem k26 : ((Rows.partsCountedRow.lifted == Tryd.pinned.checked.prog.liftsFinal)) = true := by kernel_rfl
theorem k27 : ((Tryd.pinned.checked.prog.make == some Rows.partsCountedRow.make)) = true := by kernel_rfl
theorem k28 : ((Rows.partsCountedRow.kinds == (if Rows.partsCountedRow.domain.isEmpty then [] else Tryd.f3.params.toList.map fun t => match Tryd.pinned.checked.prog.underlying t with | some (.int k) => some k | _ => none))) = true := by kernel_rfl
theorem k29 : ((Rows.partsCountedRow.pinned == Rows.partsCountedRow.pinnedBy)) = true := by kernel_rfl
theorem k30 : ((Rows.partsCountedRow.veiled == (Tryd.f3.params.toList ++ (OpenSpec.ofChange Rows.partsCountedSpec).bare.plain.varTypes Tryd.pinned.checked.prog ++ Tryd.f3.resultTypes.toList).any (Tryd.pinned.checked.prog.veiledRec ·))) = true := by kernel_rfl
theorem k31 : (Rows.partsCountedRow.veiledFits Tryd.pinned.checked.prog Tryd.f3.params.toList (Tryd.f3.params.toList ++ (OpenSpec.ofChange Rows.partsCountedSpec).bare.plain.varTypes Tryd.pinned.checked.prog ++ Tryd.f3.resultTypes.toList)) = true := by kernel_rfl
theorem closed : joinedFacts Tryd.pinned.checked.prog 3 Tryd.f3 (OpenSpec.ofChange Rows.partsCountedSpec).bare Rows.partsCountedRow = true := by
  unfold joinedFacts
  simp only [Bool.and_eq_true]
  exact ⟨⟨⟨⟨⟨⟨⟨⟨⟨⟨⟨⟨⟨⟨⟨⟨⟨⟨⟨⟨⟨⟨⟨⟨⟨⟨⟨⟨⟨⟨⟨k0, facts.k1⟩, facts.k2⟩, k3⟩, k4⟩, k5⟩, facts.k6⟩, k7⟩, facts.k8⟩, k9⟩, k10⟩, k11⟩, k12⟩, k13⟩, k14⟩, k15⟩, k16⟩, k17⟩, k18⟩, k19⟩, k20⟩, k21⟩, k22⟩, k23⟩, facts.k24⟩, facts.k25⟩, k26⟩, k27⟩, k28⟩, k29⟩, k30⟩, k31⟩
theorem named : Tryd.prog.funcNamed "swashplate/swashplatelaw09.PartsCounted" = some 3 := by kernel_rfl
theorem instance_ : Tryd.f3.isInstance Tryd.pinned.checked.prog Rows.partsCountedRow.origin Rows.partsCountedRow.targs := of_decide_eq_true (by kernel_rfl)
theorem wrapper_ : Tryd.f3.isWrapper Tryd.pinned.checked.prog Rows.partsCountedRow.wrapper Rows.partsCountedRow.mainSum := by
  unfold Func.isWrapper; first | (rw [if_pos (by decide +kernel)]; kernel_rfl) | (rw [if_neg (by decide +kernel)]; exact ⟨rfl, rfl⟩)

theorem reads (os : Os) {H : Type} (enc : TypeId × Value → H) : ∃ places, DataW.whole enc Tryd.prog ((laidWorld os).forCall (fun _ _ => 0) ⟨#[], #[.slice none 0 0, .agg #[.int .i64 0, .int .i64 0]], []⟩).memory Tryd.f3.params.toList Rows.partsCountedSpec.vars false (#[.slice none 0 0, .agg #[.int .i64 0, .int .i64 0]] : Array Value).toList 8 = some ([.nil, .agg [.lit (.int .i64 0), .lit (.int .i64 0)]], [], places) :=
  ⟨[], by kernel_rfl⟩
theorem witness (os : Os) (H : Type) (enc : TypeId × Value → H) : ∃ (w : World) (tape : Tape) (i : Input), w.os = os ∧ (w.forCall tape i).Shaped Tryd.prog ∧ i.vars = [] ∧ Input.okWide Tryd.prog (w.forCall tape i) .any w.heap.size 3 i ∧
      (OpenSpec.ofChange Rows.partsCountedSpec).preRow enc Tryd.prog Tryd.f3 Rows.partsCountedRow.domain false Rows.partsCountedRow.laid (w.forCall tape i).memory i.args ∧ ({} : Assume).holds Tryd.prog (lone (Frame.enter Tryd.prog 3 i.args .normal) [] (w.forCall tape i)) := by
  obtain ⟨places, hx⟩ := reads os enc
  exact witness_row_at (enc := enc) (C := Tryd.checked) false (laidWorld os) #[.slice none 0 0, .agg #[.int .i64 0, .int .i64 0]] rfl (by kernel_rfl) (by kernel_rfl) (by kernel_rfl)
      (OpenSpec.preRow_of_cond 8 hx (by kernel_rfl) (fun k hk => by cases hk) (by kernel_rfl) (laid_met os _))
theorem lifted (os : Os) (started : os.Started) (H : Type) (enc : TypeId × Value → H) (F : Stop.Interp) :
    ReturnsInHanded {} Tryd.checked os 3 .any ((OpenSpec.ofChange Rows.partsCountedSpec).preRow enc Tryd.prog Tryd.f3 Rows.partsCountedRow.domain false Rows.partsCountedRow.laid) (((OpenSpec.ofChange Rows.partsCountedSpec).at F).post enc Tryd.prog Tryd.f3 false true false false) := by
  refine returnsInHanded_of_row (C := Tryd.checked) (s := OpenSpec.ofChange Rows.partsCountedSpec) own started (by kernel_rfl) Tryd.func3 (witness os H enc) ?_
  intro W base args ds gs before hval hW _ _ _ hL _ _
  exact contract H enc W base args ds gs before hval hW hL
theorem said : Rows.PartsCountedSaid :=
  OpenClaim.holds_of_cond 3 Tryd.f3 rfl rfl rfl rfl rfl rfl rfl ⟨rfl, rfl, rfl, rfl, rfl⟩ rfl rfl rfl rfl rfl named Tryd.func3 closed instance_ wrapper_
    (fun os started H enc _ F => by rw [OpenClaim.pre_eq_preRow]; exact lifted os started H enc F)

theorem looks_ : false = Tryd.pinned.checked.prog.looks [] := by kernel_rfl
theorem stand_ : (Tryd.f3.params.toList.all fun t => !Tryd.pinned.checked.prog.wantsStandIn t) = true := by kernel_rfl
theorem plain (f : FuncId) (fn : Func) (hf : Tryd.pinned.checked.prog.funcNamed "swashplate/swashplatelaw09.PartsCounted" = some f) (hfn : Tryd.pinned.checked.prog.funcs[f]? = some fn) :
    false = Tryd.pinned.checked.prog.looks [] ∧ ∀ (j : Nat) t, fn.params[j]? = some t → Tryd.pinned.checked.prog.wantsStandIn t = false := by
  obtain rfl : f = 3 := Option.some.inj (named.symm.trans hf) |>.symm
  obtain rfl : fn = Tryd.f3 := (Option.some.inj (Tryd.func3.symm.trans hfn)).symm
  refine ⟨looks_, fun j t ht => ?_⟩
  have h := List.all_eq_true.1 stand_ t (Array.mem_toList_iff.2 (Array.mem_of_getElem? ht))
  exact of_not h
theorem byText : Rows.partsCountedRow.wfByText (OpenSpec.ofChange Rows.partsCountedSpec) = true := by kernel_rfl
theorem mainIs_ : Tryd.pinned.checked.prog.mainIs = some (Rows.partsCountedCard.stood.harness.1, Rows.partsCountedCard.stood.harness.2.toList) := by kernel_rfl
theorem goes_ : false = Rows.partsCountedRow.goesBy Tryd.pinned.checked.prog := by kernel_rfl
theorem card : Rows.PartsCountedCardSaid :=
  Claim7.holds_tied_plain_at .later [] _ _ _ _ said (fun _ h => by cases h) byText (fun _ h => by cases h) partsCounted_row_tie rfl ⟨rfl, rfl⟩ mainIs_ rfl plain goes_
end partsCounted
end Go.Proofs.YtchnhjffpldpiaaDoor
