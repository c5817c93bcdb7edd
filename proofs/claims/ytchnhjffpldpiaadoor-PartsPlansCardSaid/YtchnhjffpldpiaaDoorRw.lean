/- What the rows of this seat share: the listed variables; the input read again behind a call that kept it; the witness's world. No walk. -/
import Derived.Test.YtchnhjffpldpiaaDoorRows
import Derived.Test.YtchnhjffpldpiaaDoorMA
import Derived.ProofKit
import Derived.OpenShut
import Derived.Deep.DeepHandedRow
import Derived.Lib.LaidTab
import Derived.MakeChecks
namespace Go.Proofs.YtchnhjffpldpiaaDoor
open Go Go.ChangeShapes Go.WideShapes Go.ChangeAt Go.RowKit

theorem own : ownKnob Tryd.prog.godebug = none := by kernel_rfl
theorem laidOut : laidOutB Tryd.prog = true := by kernel_rfl
theorem gStore : Tryd.prog.globalNamed "swashplate/parts.store" = some 1 := by kernel_rfl
theorem gScrap : Tryd.prog.globalNamed "swashplate/parts.scrap" = some 0 := by kernel_rfl
theorem tStore : (Tryd.prog.globals[1]?).map (·.type) = some 113 := by kernel_rfl
theorem tScrap : (Tryd.prog.globals[0]?).map (·.type) = some 113 := by kernel_rfl
theorem cellsSpot : Tryd.prog.cellsOf 113 = 2 := by kernel_rfl
theorem cellsInt : Tryd.prog.cellsOf 3 = 1 := by kernel_rfl

theorem of_not {b : Bool} (h : (!b) = true) : b = false := by
  cases b
  · rfl
  · cases h
abbrev laid2 : List (String × DataW Unit) := [("swashplate/parts.store", Rows.laid_swashplate_parts_store), ("swashplate/parts.scrap", Rows.laid_swashplate_parts_scrap)]

theorem spot_cells {H : Type} {enc : TypeId × Value → H} {w : World} {base : Nat} {sp : Nat → Bool} {held : Bool} {fuel : Nat} {cs : List Value} {zs : List Int} {p : List MemPlace}
    (h : DataW.trod enc Tryd.prog w base sp held fuel 113 cs = some (.agg (zs.map fun z => .lit (.int .i64 z)), p)) : cs = zs.map fun z => Value.int .i64 z :=
  Lib.cells_of_tab Tryd.underlying113 Tryd.underlying3 cellsInt cellsSpot h

theorem var_block {P : Program} {w : World} {name : String} {g : Nat} {cs : Array Value} (hg : P.globalNamed name = some g) (h : w.var? P name = some cs) : ∃ t fr, w.heap[g]? = some (.cells cs t fr) := by
  unfold World.var? at h
  rw [hg] at h
  simp only [Option.bind_some] at h
  split at h
  · next c t fr e => cases h; exact ⟨t, fr, e⟩
  · cases h

/-- The listed variables hold what the rows say. -/
theorem glb_of {W : World} (h : laidMetH Tryd.prog laid2 W) : Glb W W.heap.size := by
  rw [MakeChecks.laidMetH_plain _ _ _ (by kernel_rfl)] at h
  obtain ⟨ps, ⟨g0, t0, cs0, f0, p0, q0, hg0, ht0, hv0, hd0, ⟨g1, t1, cs1, f1, p1, q1, hg1, ht1, hv1, hd1, _, _⟩, _⟩, _, _⟩ := h
  obtain rfl := Option.some.inj (gStore.symm.trans hg0)
  obtain rfl := Option.some.inj (gScrap.symm.trans hg1)
  obtain rfl := Option.some.inj (tStore.symm.trans ht0)
  obtain rfl := Option.some.inj (tScrap.symm.trans ht1)
  have e0 : cs0.toList = [Value.int .i64 (-1), Value.int .i64 (-1)] := spot_cells (zs := [-1, -1]) hd0
  have e1 : cs1.toList = [Value.int .i64 (-2), Value.int .i64 (-2)] := spot_cells (zs := [-2, -2]) hd1
  obtain ⟨l0⟩ := cs0
  obtain ⟨l1⟩ := cs1
  simp only at e0 e1
  subst e0 e1
  obtain ⟨u0, r0, h0⟩ := var_block gStore hv0
  obtain ⟨u1, r1, h1⟩ := var_block gScrap hv1
  refine ⟨?_, by simp [World.cell?, h0], by simp [World.cell?, h0], by simp [World.cell?, h1], by simp [World.cell?, h1]⟩
  have a := (Array.getElem?_eq_some_iff.1 h0).1
  have b := (Array.getElem?_eq_some_iff.1 h1).1
  omega

section
variable {H : Type} {enc : TypeId × Value → H} {P : Program}
/-- What was read before the call is read behind it, where the call kept it. -/
theorem all_stays (hl : laidOutB P = true) {W W' : World} (hb : Below W.heap.size W W') {sp : Nat → Bool} : ∀ {ts : List TypeId} {vs : List Value} {ds : List (DataW H)} {ps : List MemPlace},
    (∀ t ∈ ts, P.readableRec t = true ∧ t < P.types.size) → DataW.TrodAll enc P W 0 (fun _ => true) true ts vs ds ps → (∀ p ∈ ps, p.block < W.heap.size) → (∀ p ∈ ps, sp p.block = true) → DataW.TrodAll enc P W' 0 sp true ts vs ds ps
  | [], [], [], _, _, h, _, _ => h
  | t :: _, _ :: _, _ :: _, _, ht, ⟨p, q, h1, h2, e⟩, hlt, hs => by
    subst e
    refine ⟨p, q, ?_, all_stays hl hb (fun t h => ht t (List.mem_cons_of_mem _ h)) h2 (fun x hx => hlt x (List.mem_append_right _ hx)) (fun x hx => hs x (List.mem_append_right _ hx)), rfl⟩
    exact WideElems.Trod_stays hl (ht t (by simp)).1 (ht t (by simp)).2 h1 (fun x hx => hb.same (hlt x (List.mem_append_left _ hx))) (fun x hx => hs x (List.mem_append_left _ hx))

/-- The call answered true and kept what was there: that is all that a row of this seat asks. -/
theorem law_post {f : Func} {s : ChangeSpec} {W W' : World} {args : Array Value} {ds gs : List (DataW H)} {before : List MemPlace} (hl : laidOutB P = true) {tb : TypeId} (htb : P.underlying tb = some .bool)
    (hres : f.resultTypes = #[tb]) (hpar : (f.params.toList.all fun t => P.readableRec t && decide (t < P.types.size)) = true) (hvars : s.vars = [])
    (hW : DataW.Whole enc P f.params.toList s.vars false W args.toList ds gs before) (hfn : s.fn H ds = { results := [.lit (.bool true)], args := ds }) (hb : Below W.heap.size W W') :
    s.post enc P f false true false false W args (.bool true) W' := by
  have hW' := hW
  obtain ⟨p, q, hA, hV, rfl, _, _⟩ := hW
  rw [hvars] at hV
  obtain ⟨rfl, rfl⟩ := trodVars_none hV
  have hlt : ∀ x ∈ p ++ [], x.block < W.heap.size := fun x hx => hW'.lt x hx
  simp only [List.append_nil] at hW' hlt
  refine ⟨ds, [], p, [], p, [], hW', ?_, ?_, ?_, World.keptBut_mono (fun x hx => ⟨hx, .inr (.inl hx)⟩) (hb.frame (· ∈ p)), fun h => by cases h⟩
  · rw [List.append_nil, hfn, hres]
    exact trodAll_cons_mk (shut_bool htb _) trodAll_mk0
  · rw [List.append_nil, hfn]
    refine all_stays hl hb (fun t ht => ?_) hA hlt (fun x hx => by simpa using hlt x hx)
    have := List.all_eq_true.1 hpar t ht
    simpa using this
  · rw [hvars, List.append_nil, hfn]
    exact rfl
end

/-- A world for the witness: the settled one, the two variables holding what their initialisers lay. -/
def putCells (cs : Array Value) : Obj → Obj
  | .cells _ t frozen => .cells cs t frozen
  | o => o
noncomputable def laidWorld (os : Os) : World :=
  { World.holding Tryd.prog os ⟨#[], #[], []⟩ with heap := ((World.holding Tryd.prog os ⟨#[], #[], []⟩).heap.modify 1 (putCells #[.int .i64 (-1), .int .i64 (-1)])).modify 0 (putCells #[.int .i64 (-2), .int .i64 (-2)]) }
theorem laid_met (os : Os) (args : Array Value) : laidMet Tryd.prog laid2 ((laidWorld os).forCall (fun _ _ => 0) ⟨#[], args, []⟩).memory :=
  laidMet_of_run' 8 (by kernel_rfl) (by kernel_rfl)
end Go.Proofs.YtchnhjffpldpiaaDoor
