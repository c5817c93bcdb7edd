/- parts.newHangar -/
import Derived.Test.YtchnhjffpldpiaaDoorPart
import Derived.Test.YtchnhjffpldpiaaDoorH5
import Derived.Test.YtchnhjffpldpiaaDoorLast
import Derived.Deep.DeepCutAuto
import Derived.Deep.RegionHeld3
import Derived.Deep.RegionLaw
import Derived.Deep.AppendLies
import Derived.Deep.DrawnRows
import Derived.BigRegion
namespace Go.Proofs.YtchnhjffpldpiaaDoor
open Go.RowKit
attribute [local go_sem ↓] Go.wp_at_zero Go.wp_at_succ

theorem info_int : ((Tryd.prog).info? 3).map (fun i => (i.zero, i.size, i.bytes)) = some (some (.int .i64 0), 1, 8) := by kernel_rfl
theorem info_pp : ((Tryd.prog).info? 112).map (fun i => (i.zero, i.size, i.bytes)) = some (some (.pointer none), 1, 8) := by kernel_rfl
theorem info_bool : ((Tryd.prog).info? 4).map (fun i => (i.zero, i.size, i.bytes)) = some (some (.bool false), 1, 1) := by kernel_rfl
theorem info_spot : ((Tryd.prog).info? 113).map (fun i => (i.zero, i.size, i.bytes)) = some (some (.agg #[.int .i64 0, .int .i64 0]), 2, 16) := by kernel_rfl
theorem info_stretches : ((Tryd.prog).info? 57).map (fun i => (i.zero, i.size, i.bytes)) = some (some (.slice none 0 0), 1, 24) := by kernel_rfl

/-- make([]T, n) at a length that is a variable. -/
theorem mk_run {P : Program} (t e : TypeId) (z : Value) (size bytes : Nat) (ht : P.underlying t = some (.slice e)) (hinfo : (P.info? e).map (fun i => (i.zero, i.size, i.bytes)) = some (some z, size, bytes))
    (n : Nat) (hb : bytes ≤ 1000) (hn : n ≤ 100000000000) (w : World) :
    (Instr.makeSlice t (.int .i64 (n : Int)) (.int .i64 (n : Int))).run P w = .ok (.slice (some ⟨w.heap.size, 0, none⟩) n n) (w.alloc (.cells (madeCells z.cells (n * size)) e)) := by
  obtain ⟨i, hi, hz0, hz1, hz2⟩ := info_parts hinfo
  have hb' : (i.bytes : Int) * (n : Int) ≤ 281474976710656 := by
    have : i.bytes * n ≤ 1000 * 100000000000 := Nat.mul_le_mul (by omega) hn
    have h : ((i.bytes * n : Nat) : Int) ≤ 281474976710656 := by omega
    rwa [Int.natCast_mul] at h
  have := run_make (P := P) w t e i z ht hi hz0 .i64 .i64 n n (by omega) (by omega) hb' (by omega)
  simpa [hz1] using this


theorem made_rep (z : Array Value) (c : Value) (n : Nat) (h : ∀ i, z[i % z.size]! = c) : madeCells z n = (List.replicate n c).toArray := by
  unfold madeCells
  apply Array.ext
  · simp
  · intro i h1 h2
    simp only [Array.getElem_map, h, List.getElem_toArray, List.getElem_replicate]

theorem mk_rep {P : Program} (t e : TypeId) (z : Value) (c : Value) (size bytes : Nat) (ht : P.underlying t = some (.slice e)) (hinfo : (P.info? e).map (fun i => (i.zero, i.size, i.bytes)) = some (some z, size, bytes)) (hc : ∀ i, z.cells[i % z.cells.size]! = c)
    (n : Nat) (hb : bytes ≤ 1000) (hn : n ≤ 100000000000) (w : World) :
    (Instr.makeSlice t (.int .i64 (n : Int)) (.int .i64 (n : Int))).run P w = .ok (.slice (some ⟨w.heap.size, 0, none⟩) n n) (w.alloc (.cells (List.replicate (n * size) c).toArray e)) := by
  rw [mk_run t e z size bytes ht hinfo n hb hn w, made_rep _ _ _ hc]

theorem one_cell {z c : Value} (h : z.cells = #[c]) : ∀ i : Nat, z.cells[i % z.cells.size]! = c := by
  intro i
  rw [h]
  simp [Nat.mod_one]
theorem two_cells : ∀ i : Nat, (Value.agg #[Value.int .i64 0, .int .i64 0]).cells[i % (Value.agg #[Value.int .i64 0, .int .i64 0]).cells.size]! = Value.int .i64 0 := by
  intro i
  have e : (Value.agg #[Value.int .i64 0, .int .i64 0]).cells = #[Value.int .i64 0, .int .i64 0] := by rfl
  rw [e]
  have : i % 2 = 0 ∨ i % 2 = 1 := by omega
  rcases this with h | h <;> simp [h]

theorem below_alloc5 {w : World} (o0 o1 o2 o3 o4 : Obj) : Below w.heap.size w (((((w.alloc o0).alloc o1).alloc o2).alloc o3).alloc o4).drew := by
  refine Below.drew (Below.alloc (Below.alloc (Below.alloc (Below.alloc (Below.alloc (Below.refl _ _) (Nat.le_refl _) _) ?_ _) ?_ _) ?_ _) ?_ _) <;> simp only [World.size_alloc] <;> omega
theorem below_alloc2 {w : World} (o0 o1 : Obj) : Below w.heap.size w ((w.alloc o0).alloc o1).drew := by
  refine Below.drew (Below.alloc (Below.alloc (Below.refl _ _) (Nat.le_refl _) _) ?_ _)
  simp only [World.size_alloc]; omega

theorem own_partsV {L : HL} {k b : Nat} (h : (partsV L k).ownBlock = some b) : b = L.pr ∧ 0 < k := by
  unfold partsV at h
  split at h
  · simp [Value.ownBlock] at h
  · simp [Value.ownBlock] at h
    exact ⟨h.symm, by omega⟩

/-- A round of newHangar behind its append. -/
theorem next_round {w wr W V w4 : World} {r : RegR} {L : HL} {k hb s0 c0 g cap no np pc oc : Nat} {pk phr pcy : Int} {pkn : Bool} {ka pa oa : Option Addr} {pv : Value}
    (hP : PartH W (w.heap.size + 1) L r k) (hL : L.hb = hb ∧ L.ka = ka ∧ L.pa = pa ∧ L.oa = oa) (hR : wr.cell? ⟨w.heap.size, 1, none⟩ = some (.slice pa np pc) ∧ wr.cell? ⟨w.heap.size, 3, none⟩ = some (.slice oa no oc))
    (hB : Below w.heap.size w wr) (bW : Below wr.heap.size wr W) (hlw : w.heap.size < wr.heap.size) (bV : Below W.heap.size W V) (vz : V.heap.size = W.heap.size + 2) (hno : r.orders.length = no)
    (hs : V.heap[s0]? = some (.cells (Array.replicate no (.int .i64 0)) 3 (0, 0))) (hc : V.heap[c0]? = some (.cells (Array.replicate no (.bool false)) 4 (0, 0)))
    (ls : W.heap.size ≤ s0) (lc : W.heap.size ≤ c0) (n1 : s0 ≠ c0) (hp : r.parts[k]! = ⟨pk, phr, pcy, pkn⟩) (hpv : partsV L k = pv)
    (O : w4.ownsRow (w.heap.size + 1) 112 1 (.slice (some ⟨g, 0, none⟩) (k + 1) cap) (k + 1) ((List.range k).map (fun i => Value.pointer (some ⟨L.pb i, 0, none⟩)) ++ [.pointer (some ⟨W.heap.size + 2, 0, none⟩)]))
    (G : ((V.alloc (Obj.cells #[.int .i64 pk, .int .i64 phr, .int .i64 pcy, .bool pkn, .int .i64 (-1), .int .i64 (-1), .slice (some ⟨s0, 0, none⟩) no no, .slice (some ⟨c0, 0, none⟩) no no] 116)).alloc (Obj.cells #[.pointer (some ⟨W.heap.size + 2, 0, none⟩)] 112)).grownBy w4 pv.ownBlock)
    (A : pv.ownBlock = some g ∨ g = W.heap.size + 4) :
    ∃ L' : HL, Aside (L'.hb = hb ∧ L'.ka = ka ∧ L'.pa = pa ∧ L'.oa = oa) ∧
      Aside ((w4.setCell ⟨hb, 4, none⟩ (.slice (some ⟨g, 0, none⟩) (k + 1) cap)).cell? ⟨w.heap.size, 1, none⟩ = some (.slice pa np pc) ∧ (w4.setCell ⟨hb, 4, none⟩ (.slice (some ⟨g, 0, none⟩) (k + 1) cap)).cell? ⟨w.heap.size, 3, none⟩ = some (.slice oa no oc)) ∧
      Aside (Below w.heap.size w (w4.setCell ⟨hb, 4, none⟩ (.slice (some ⟨g, 0, none⟩) (k + 1) cap))) ∧ Aside (PartH (w4.setCell ⟨hb, 4, none⟩ (.slice (some ⟨g, 0, none⟩) (k + 1) cap)) (w.heap.size + 1) L' r (k + 1)) := by
  subst hno hpv
  obtain ⟨e1, e2, e3, e4⟩ := hL
  subst e1
  have hz4 := G.size
  rw [World.size_alloc, World.size_alloc] at hz4
  have hbw : Below W.heap.size W ((V.alloc (Obj.cells #[.int .i64 pk, .int .i64 phr, .int .i64 pcy, .bool pkn, .int .i64 (-1), .int .i64 (-1), .slice (some ⟨s0, 0, none⟩) r.orders.length r.orders.length, .slice (some ⟨c0, 0, none⟩) r.orders.length r.orders.length] 116)).alloc (Obj.cells #[.pointer (some ⟨W.heap.size + 2, 0, none⟩)] 112)) :=
    (bV.alloc (by omega) _).alloc (by rw [World.size_alloc]; omega) _
  have old : ∀ x, x < V.heap.size → ∀ a b : Obj, ((V.alloc a).alloc b).heap[x]? = V.heap[x]? := fun x hx a b => by
    rw [Below.heap_alloc _ _ _ (by rw [World.size_alloc]; omega), Below.heap_alloc _ _ _ hx]
  have hs3 := (Array.getElem?_eq_some_iff.1 hs).1
  have hc3 := (Array.getElem?_eq_some_iff.1 hc).1
  have hlb := hP.lt .h trivial
  have hBb := (hP.blocks .h trivial).2
  simp only [HL.blk] at hlb hBb
  have bWz := bW.size
  obtain ⟨L', q1, q2, q3, q4, _, _, _, q8⟩ := hP.next (w3 := (V.alloc (Obj.cells #[.int .i64 pk, .int .i64 phr, .int .i64 pcy, .bool pkn, .int .i64 (-1), .int .i64 (-1), .slice (some ⟨s0, 0, none⟩) r.orders.length r.orders.length, .slice (some ⟨c0, 0, none⟩) r.orders.length r.orders.length] 116)).alloc (Obj.cells #[.pointer (some ⟨W.heap.size + 2, 0, none⟩)] 112))
    (w4 := w4) s0 c0 (W.heap.size + 2) cap g hbw ls lc (by omega) n1 (by omega) (by omega) (by rw [old s0 hs3, hs, List.toArray_replicate]) (by rw [old c0 hc3, hc, List.toArray_replicate])
    (by rw [Below.heap_alloc _ _ _ (by rw [World.size_alloc]; omega), ← vz, heap_alloc_new, hp]) O G (A.imp id fun h => by rw [h, World.size_alloc, World.size_alloc]; omega)
  have hreg : ∀ j, (w4.setCell ⟨L.hb, 4, none⟩ (.slice (some ⟨g, 0, none⟩) (k + 1) cap)).cell? ⟨w.heap.size, j, none⟩ = wr.cell? ⟨w.heap.size, j, none⟩ := by
    intro j
    refine World.cell?_of_block ?_
    rw [Below.heap_setCell _ _ _ _ (by simp only; omega), G.block _ (by rw [World.size_alloc, World.size_alloc]; simp only; omega) ?_, old _ (by simp only; omega), bV.block _ (by simp only; omega), bW.block _ (by simp only; omega)]
    intro e
    obtain ⟨e5, e6⟩ := own_partsV e.symm
    have := (hP.blocks .pr e6).2
    simp only [HL.blk] at this e5
    omega
  have hBW : Below w.heap.size w (w4.setCell ⟨L.hb, 4, none⟩ (.slice (some ⟨g, 0, none⟩) (k + 1) cap)) := by
    refine Below.setCell (p := ⟨L.hb, 4, none⟩) ?_ (by simp only; omega) _
    refine ((hB.trans (bW.mono (by omega))).trans (hbw.mono (by omega))).grown G (by rw [World.size_alloc, World.size_alloc]; omega) fun b e => ?_
    obtain ⟨e5, e6⟩ := own_partsV e
    have := (hP.blocks .pr e6).2
    simp only [HL.blk] at this
    omega
  exact ⟨L', ⟨q1, q2.trans e2, q3.trans e3, q4.trans e4⟩, ⟨(hreg 1).trans hR.1, (hreg 3).trans hR.2⟩, hBW, q8⟩

set_option maxRecDepth 100000 in
set_option maxHeartbeats 2000000 in
theorem newHangar_any (r : RegR) (ka pa oa : Option Addr) (kc pc oc nm : Nat) (w : World) (hG : Glb w w.heap.size) (hR : RegRd w w.heap.size ka pa oa r.kinds.length r.parts.length r.orders.length r)
   (hnp : r.parts.length ≤ 24) (hno : r.orders.length ≤ 6) (hnm : nm ≤ 4) (hm : r.machines = nm) :
    Calls Tryd.prog 118 #[.agg #[.slice ka r.kinds.length kc, .slice pa r.parts.length pc, .int .i64 (nm : Int), .slice oa r.orders.length oc]] w fun e w' =>
      ∃ L, e = .returned (.pointer (some ⟨L.hb, 0, none⟩)) ∧ Below w.heap.size w w' ∧ IsH w' (w.heap.size + 1) L (newHS r) := by
  have HR := Lib.hid hR
  have HG := Lib.hid hG
  have HM := Lib.hid hm
  clear hR hm hG
  obtain ⟨np, hnpe⟩ : ∃ np, r.parts.length = np := ⟨_, rfl⟩
  obtain ⟨no, hnoe⟩ : ∃ no, r.orders.length = no := ⟨_, rfl⟩
  obtain ⟨nk, hnke⟩ : ∃ nk, r.kinds.length = nk := ⟨_, rfl⟩
  rw [hnpe] at hnp HR ⊢
  rw [hnoe] at hno HR ⊢
  rw [hnke] at HR ⊢
  have HNP := Lib.hid hnpe
  have HNO := Lib.hid hnoe
  have HNK := Lib.hid hnke
  clear hnpe hnoe hnke
  have m1 := fun w : World => mk_rep (P := Tryd.prog) 114 4 _ (.bool false) _ _ Tryd.underlying114 info_bool (one_cell rfl) no (by omega) (by omega) w
  have m2 := fun w : World => mk_rep (P := Tryd.prog) 130 113 _ (.int .i64 0) _ _ Tryd.underlying130 info_spot (two_cells) nm (by omega) (by omega) w
  have m3 := fun w : World => mk_rep (P := Tryd.prog) 67 57 _ (.slice none 0 0) _ _ Tryd.underlying67 info_stretches (one_cell rfl) np (by omega) (by omega) w
  simp only [Nat.mul_one] at m1 m3
  go_enter Tryd.func118, Tryd.ntmps118
  go_upto_region 1 with (fail)
  go_cut [3] (fun s3 wx => ∃ L : HL, s3 = .pointer (some ⟨L.hb, 0, none⟩) ∧ L.ka = ka ∧ L.pa = pa ∧ L.oa = oa ∧ wx.cell? ⟨w.heap.size, 1, none⟩ = some (.slice pa np pc) ∧ wx.cell? ⟨w.heap.size, 3, none⟩ = some (.slice oa no oc) ∧ Below w.heap.size w wx ∧ PartH wx (w.heap.size + 1) L r 0)
  case first =>
    go_region
    all_goals go_wp2
    all_goals go_meet
    all_goals (first
      | exact PartH.start HG.out HR.out HNK.out HNP.out HNO.out (below_alloc5 _ _ _ _ _) kc pc oc nm HM.out (w.heap.size + 1) (w.heap.size + 1 + 1) (w.heap.size + 1 + 1 + 1) (w.heap.size + 1 + 1 + 1 + 1) (by omega) (by omega) (by omega) (by omega) (by omega) (by omega) (by omega) (by omega) (by omega) (by omega) (by (simp only [World.alloc, World.drew, Array.getElem?_push, Array.size_push]; (repeat (first | rw [if_neg (by omega)] | rw [if_pos (by omega)] | rw [if_pos trivial])); first | done | fail)) (by (simp only [World.alloc, World.drew, Array.getElem?_push, Array.size_push]; (repeat (first | rw [if_neg (by omega)] | rw [if_pos (by omega)] | rw [if_pos trivial])); first | done | fail)) (by (simp only [World.alloc, World.drew, Array.getElem?_push, Array.size_push]; (repeat (first | rw [if_neg (by omega)] | rw [if_pos (by omega)] | rw [if_pos trivial])); first | done | fail)) (by (simp only [World.alloc, World.drew, Array.getElem?_push, Array.size_push]; (repeat (first | rw [if_neg (by omega)] | rw [if_pos (by omega)] | rw [if_pos trivial])); first | done | fail)) (by (simp only [World.alloc, World.drew, Array.getElem?_push, Array.size_push]; (repeat (first | rw [if_neg (by omega)] | rw [if_pos (by omega)] | rw [if_pos trivial])); first | done | fail))
      | exact PartH.start HG.out HR.out HNK.out HNP.out HNO.out (below_alloc5 _ _ _ _ _) kc pc oc nm HM.out (w.heap.size + 1) (w.heap.size + 1 + 1 + 1) (w.heap.size + 1 + 1) (w.heap.size + 1 + 1 + 1 + 1) (by omega) (by omega) (by omega) (by omega) (by omega) (by omega) (by omega) (by omega) (by omega) (by omega) (by (simp only [World.alloc, World.drew, Array.getElem?_push, Array.size_push]; (repeat (first | rw [if_neg (by omega)] | rw [if_pos (by omega)] | rw [if_pos trivial])); first | done | fail)) (by (simp only [World.alloc, World.drew, Array.getElem?_push, Array.size_push]; (repeat (first | rw [if_neg (by omega)] | rw [if_pos (by omega)] | rw [if_pos trivial])); first | done | fail)) (by (simp only [World.alloc, World.drew, Array.getElem?_push, Array.size_push]; (repeat (first | rw [if_neg (by omega)] | rw [if_pos (by omega)] | rw [if_pos trivial])); first | done | fail)) (by (simp only [World.alloc, World.drew, Array.getElem?_push, Array.size_push]; (repeat (first | rw [if_neg (by omega)] | rw [if_pos (by omega)] | rw [if_pos trivial])); first | done | fail)) (by (simp only [World.alloc, World.drew, Array.getElem?_push, Array.size_push]; (repeat (first | rw [if_neg (by omega)] | rw [if_pos (by omega)] | rw [if_pos trivial])); first | done | fail))
      | exact PartH.start HG.out HR.out HNK.out HNP.out HNO.out (below_alloc5 _ _ _ _ _) kc pc oc nm HM.out (w.heap.size + 1 + 1) (w.heap.size + 1) (w.heap.size + 1 + 1 + 1) (w.heap.size + 1 + 1 + 1 + 1) (by omega) (by omega) (by omega) (by omega) (by omega) (by omega) (by omega) (by omega) (by omega) (by omega) (by (simp only [World.alloc, World.drew, Array.getElem?_push, Array.size_push]; (repeat (first | rw [if_neg (by omega)] | rw [if_pos (by omega)] | rw [if_pos trivial])); first | done | fail)) (by (simp only [World.alloc, World.drew, Array.getElem?_push, Array.size_push]; (repeat (first | rw [if_neg (by omega)] | rw [if_pos (by omega)] | rw [if_pos trivial])); first | done | fail)) (by (simp only [World.alloc, World.drew, Array.getElem?_push, Array.size_push]; (repeat (first | rw [if_neg (by omega)] | rw [if_pos (by omega)] | rw [if_pos trivial])); first | done | fail)) (by (simp only [World.alloc, World.drew, Array.getElem?_push, Array.size_push]; (repeat (first | rw [if_neg (by omega)] | rw [if_pos (by omega)] | rw [if_pos trivial])); first | done | fail)) (by (simp only [World.alloc, World.drew, Array.getElem?_push, Array.size_push]; (repeat (first | rw [if_neg (by omega)] | rw [if_pos (by omega)] | rw [if_pos trivial])); first | done | fail))
      | exact PartH.start HG.out HR.out HNK.out HNP.out HNO.out (below_alloc5 _ _ _ _ _) kc pc oc nm HM.out (w.heap.size + 1 + 1) (w.heap.size + 1 + 1 + 1) (w.heap.size + 1) (w.heap.size + 1 + 1 + 1 + 1) (by omega) (by omega) (by omega) (by omega) (by omega) (by omega) (by omega) (by omega) (by omega) (by omega) (by (simp only [World.alloc, World.drew, Array.getElem?_push, Array.size_push]; (repeat (first | rw [if_neg (by omega)] | rw [if_pos (by omega)] | rw [if_pos trivial])); first | done | fail)) (by (simp only [World.alloc, World.drew, Array.getElem?_push, Array.size_push]; (repeat (first | rw [if_neg (by omega)] | rw [if_pos (by omega)] | rw [if_pos trivial])); first | done | fail)) (by (simp only [World.alloc, World.drew, Array.getElem?_push, Array.size_push]; (repeat (first | rw [if_neg (by omega)] | rw [if_pos (by omega)] | rw [if_pos trivial])); first | done | fail)) (by (simp only [World.alloc, World.drew, Array.getElem?_push, Array.size_push]; (repeat (first | rw [if_neg (by omega)] | rw [if_pos (by omega)] | rw [if_pos trivial])); first | done | fail)) (by (simp only [World.alloc, World.drew, Array.getElem?_push, Array.size_push]; (repeat (first | rw [if_neg (by omega)] | rw [if_pos (by omega)] | rw [if_pos trivial])); first | done | fail))
      | exact PartH.start HG.out HR.out HNK.out HNP.out HNO.out (below_alloc5 _ _ _ _ _) kc pc oc nm HM.out (w.heap.size + 1 + 1 + 1) (w.heap.size + 1) (w.heap.size + 1 + 1) (w.heap.size + 1 + 1 + 1 + 1) (by omega) (by omega) (by omega) (by omega) (by omega) (by omega) (by omega) (by omega) (by omega) (by omega) (by (simp only [World.alloc, World.drew, Array.getElem?_push, Array.size_push]; (repeat (first | rw [if_neg (by omega)] | rw [if_pos (by omega)] | rw [if_pos trivial])); first | done | fail)) (by (simp only [World.alloc, World.drew, Array.getElem?_push, Array.size_push]; (repeat (first | rw [if_neg (by omega)] | rw [if_pos (by omega)] | rw [if_pos trivial])); first | done | fail)) (by (simp only [World.alloc, World.drew, Array.getElem?_push, Array.size_push]; (repeat (first | rw [if_neg (by omega)] | rw [if_pos (by omega)] | rw [if_pos trivial])); first | done | fail)) (by (simp only [World.alloc, World.drew, Array.getElem?_push, Array.size_push]; (repeat (first | rw [if_neg (by omega)] | rw [if_pos (by omega)] | rw [if_pos trivial])); first | done | fail)) (by (simp only [World.alloc, World.drew, Array.getElem?_push, Array.size_push]; (repeat (first | rw [if_neg (by omega)] | rw [if_pos (by omega)] | rw [if_pos trivial])); first | done | fail))
      | exact PartH.start HG.out HR.out HNK.out HNP.out HNO.out (below_alloc5 _ _ _ _ _) kc pc oc nm HM.out (w.heap.size + 1 + 1 + 1) (w.heap.size + 1 + 1) (w.heap.size + 1) (w.heap.size + 1 + 1 + 1 + 1) (by omega) (by omega) (by omega) (by omega) (by omega) (by omega) (by omega) (by omega) (by omega) (by omega) (by (simp only [World.alloc, World.drew, Array.getElem?_push, Array.size_push]; (repeat (first | rw [if_neg (by omega)] | rw [if_pos (by omega)] | rw [if_pos trivial])); first | done | fail)) (by (simp only [World.alloc, World.drew, Array.getElem?_push, Array.size_push]; (repeat (first | rw [if_neg (by omega)] | rw [if_pos (by omega)] | rw [if_pos trivial])); first | done | fail)) (by (simp only [World.alloc, World.drew, Array.getElem?_push, Array.size_push]; (repeat (first | rw [if_neg (by omega)] | rw [if_pos (by omega)] | rw [if_pos trivial])); first | done | fail)) (by (simp only [World.alloc, World.drew, Array.getElem?_push, Array.size_push]; (repeat (first | rw [if_neg (by omega)] | rw [if_pos (by omega)] | rw [if_pos trivial])); first | done | fail)) (by (simp only [World.alloc, World.drew, Array.getElem?_push, Array.size_push]; (repeat (first | rw [if_neg (by omega)] | rw [if_pos (by omega)] | rw [if_pos trivial])); first | done | fail)))
  case rest =>
    obtain ⟨L0, rfl, ek, ep, eo, r1, r3, b0, p0⟩ := hcut
    obtain ⟨hb, hhb⟩ : ∃ hb, L0.hb = hb := ⟨_, rfl⟩
    have P0 := Lib.hid (And.intro hhb (And.intro ek (And.intro ep (And.intro eo p0))))
    have B0 := Lib.hid b0
    rw [hhb]
    clear hhb ek ep eo p0 b0 m2 m3
    have m4 := fun w : World => mk_rep (P := Tryd.prog) 22 3 _ (.int .i64 0) _ _ Tryd.underlying22 info_int (one_cell rfl) no (by omega) (by omega) w
    simp only [Nat.mul_one] at m4
    go_wp2
    go_loopg [23] np (fun gg s23 wr => ∃ (k : Nat) (L : HL), k ≤ np ∧ np - k ≤ gg ∧ s23 = .int .i64 k ∧ Aside (L.hb = hb ∧ L.ka = ka ∧ L.pa = pa ∧ L.oa = oa) ∧ Aside (wr.cell? ⟨w.heap.size, 1, none⟩ = some (.slice pa np pc) ∧ wr.cell? ⟨w.heap.size, 3, none⟩ = some (.slice oa no oc)) ∧ Aside (Below w.heap.size w wr) ∧ Aside (PartH wr (w.heap.size + 1) L r k))
    case atStart => exact ⟨0, L0, Nat.zero_le _, by omega, rfl, ⟨P0.out.1, P0.out.2.1, P0.out.2.2.1, P0.out.2.2.2.1⟩, ⟨r1, r3⟩, B0.out, P0.out.2.2.2.2⟩
    case round =>
      obtain ⟨k, L, hk, hg, rfl, EL, ER, EB, EP⟩ := hrel
      by_cases hlt : k < np
      · obtain ⟨pb, poff, hpa, hpc⟩ := HR.out.parts.ex
        obtain ⟨rfl, hpb⟩ := hpa (by omega)
        have q0 := (EB.out.cell (p := ⟨pb, poff + k * 4, none⟩) hpb).trans (hpc k hlt 0 _ rfl)
        have q1 := (EB.out.cell (p := ⟨pb, poff + k * 4 + 1, none⟩) hpb).trans (hpc k hlt 1 _ rfl)
        have q2 := (EB.out.cell (p := ⟨pb, poff + k * 4 + 2, none⟩) hpb).trans (hpc k hlt 2 _ rfl)
        have q3 := (EB.out.cell (p := ⟨pb, poff + k * 4 + 3, none⟩) hpb).trans (hpc k hlt 3 _ rfl)
        have hltz : (k : Int) < (np : Int) := by omega
        have hk0 : (0 : Int) ≤ (k : Int) := by omega
        have hpw : pb < wr.heap.size := Nat.lt_of_lt_of_le hpb EB.out.size
        clear hpa hpc
        obtain ⟨p, hp⟩ : ∃ p, r.parts[k]! = p := ⟨_, rfl⟩
        rw [hp] at q0 q1 q2 q3
        obtain ⟨pk, phr, pcy, pkn⟩ := p
        simp only at q0 q1 q2 q3
        have HP := Lib.hid hp
        clear hp
        go_upto_region 5 with (fail)
        refine code_named fun W hW => ?_
        have bW : Below wr.heap.size wr W := by rw [hW]; exact (Below.refl _ _).alloc (Nat.le_refl _) _
        have PW := EP.out.below bW
        have hsz : W.heap.size = wr.heap.size + 1 := by rw [hW, World.size_alloc]
        have hlw : w.heap.size < wr.heap.size := by have h1 := (EP.out.blocks .h trivial).2; have h2 := EP.out.lt .h trivial; omega
        have c4 : W.cell? ⟨hb, 4, none⟩ = some (partsV L k) := by rw [← EL.out.1]; exact (PW.cell .h trivial 4).trans rfl
        have f4 : W.frozen? ⟨hb, 4, none⟩ = false := by rw [← EL.out.1]; exact PW.frozen .h trivial 4
        have c3 : W.cell? ⟨w.heap.size, 3, none⟩ = some (.slice oa no oc) := (bW.cell (p := ⟨w.heap.size, 3, none⟩) hlw).trans ER.out.2
        have s0 := PW.glb.s0
        have s1 := PW.glb.s1
        have d0 : W.cell? ⟨wr.heap.size, 0, none⟩ = some (.int .i64 pk) := by rw [hW]; simp
        have d1 : W.cell? ⟨wr.heap.size, 1, none⟩ = some (.int .i64 phr) := by rw [hW]; simp
        have d2 : W.cell? ⟨wr.heap.size, 2, none⟩ = some (.int .i64 pcy) := by rw [hW]; simp
        have d3 : W.cell? ⟨wr.heap.size, 3, none⟩ = some (.bool pkn) := by rw [hW]; simp
        have PW' := Lib.hid PW
        have BW' := Lib.hid bW
        have HSZ := Lib.hid hsz
        have HLW := Lib.hid hlw
        obtain ⟨pv, hpv⟩ : ∃ pv, partsV L k = pv := ⟨_, rfl⟩
        rw [hpv] at c4
        have HPV := Lib.hid hpv
        clear hW PW bW hsz hpv q0 q1 q2 q3
        obtain ⟨l, hl⟩ : ∃ l : List Addr, l = [⟨hb, 4, none⟩, ⟨w.heap.size, 3, none⟩, ⟨1, 0, none⟩, ⟨1, 1, none⟩, ⟨wr.heap.size, 0, none⟩, ⟨wr.heap.size, 1, none⟩, ⟨wr.heap.size, 2, none⟩, ⟨wr.heap.size, 3, none⟩] := ⟨_, rfl⟩
        have y0 : ∀ x : Kept W l, x.1.cell? ⟨hb, 4, none⟩ = some pv := fun x => x.cell (by rw [hl]; simp) c4
        have y1 : ∀ x : Kept W l, x.1.cell? ⟨w.heap.size, 3, none⟩ = some (.slice oa no oc) := fun x => x.cell (by rw [hl]; simp) c3
        have y2 : ∀ x : Kept W l, x.1.cell? ⟨1, 0, none⟩ = some (.int .i64 (-1)) := fun x => x.cell (by rw [hl]; simp) s0
        have y3 : ∀ x : Kept W l, x.1.cell? ⟨1, 1, none⟩ = some (.int .i64 (-1)) := fun x => x.cell (by rw [hl]; simp) s1
        have y4 : ∀ x : Kept W l, x.1.cell? ⟨wr.heap.size, 0, none⟩ = some (.int .i64 pk) := fun x => x.cell (by rw [hl]; simp) d0
        have y5 : ∀ x : Kept W l, x.1.cell? ⟨wr.heap.size, 1, none⟩ = some (.int .i64 phr) := fun x => x.cell (by rw [hl]; simp) d1
        have y6 : ∀ x : Kept W l, x.1.cell? ⟨wr.heap.size, 2, none⟩ = some (.int .i64 pcy) := fun x => x.cell (by rw [hl]; simp) d2
        have y7 : ∀ x : Kept W l, x.1.cell? ⟨wr.heap.size, 3, none⟩ = some (.bool pkn) := fun x => x.cell (by rw [hl]; simp) d3
        have HLL := Lib.hid hl
        clear hl
        refine wp_region_last_lit 21 10 12 (fun V => ∃ x : Kept W l, V = x.1) (by kernel_rfl) (by rfl) (by rfl) rfl rfl (by kernel_rfl) rfl (by decide) (by kernel_rfl) (by kernel_rfl) (by kernel_rfl) (by intro c a d v w h; cases d <;> exact h) (KeptAt.refl _ _).drew ?_
        simp only [List.take_succ_cons, List.take_zero, List.cons_append, List.nil_append, nopOf]
        repeat (any_goals (first | go_big_quiet_step (fail) | quiet_step (fail)))
        refine wpQuiet_nil ?_
        refine wpAnyH_seg_at (by kernel_rfl) (by intro c a d v w h; cases d <;> exact h) (KeptAt.refl _ _).drew 9 11 3 _ _ (by decide) (by kernel_rfl) (by kernel_rfl) ?_
        simp only [List.take_succ_cons, List.take_zero, List.drop_succ_cons, List.drop_zero]
        repeat (any_goals (first | go_big_quiet_step (fail) | quiet_step (fail)))
        refine wpQuiet_nil ?_
        have lkW : ∀ p ∈ l, p.block < W.heap.size := by
          rw [HLL.out]
          intro p hp
          have h1 := PW'.out.lt .h trivial
          have h2 : L.hb = hb := EL.out.1
          have h3 := HSZ.out
          have h4 := PW'.out.glb.lt
          simp only [HL.blk] at h1
          simp only [List.mem_cons, List.not_mem_nil, or_false] at hp
          rcases hp with rfl | rfl | rfl | rfl | rfl | rfl | rfl | rfl <;> simp only <;> omega
        have own : ∀ p ∈ l, some p.block ≠ pv.ownBlock := by
          rw [HLL.out, ← HPV.out]
          intro p hp e
          obtain ⟨e1, e2⟩ := own_partsV e.symm
          have h1 := (PW'.out.blocks .pr e2).2
          have h2 : L.hb = hb := EL.out.1
          have h3 := PW'.out.glb.lt
          have h4 := EP.out.lt .pr e2
          have h5 : L.blk .h ≠ L.blk .pr := fun e => by cases PW'.out.inj .h .pr trivial e2 e
          simp only [HL.blk] at h1 h4 h5
          have h6 := HLW.out
          simp only [List.mem_cons, List.not_mem_nil, or_false] at hp
          rcases hp with rfl | rfl | rfl | rfl | rfl | rfl | rfl | rfl <;> simp only at e1 <;> omega
        have OWN := Lib.hid own
        clear own
        have KA : Aside (KeptAt W l (W.alloc (Obj.cells (Array.replicate no (Value.int IntKind.i64 0)) 3)).drew ∧ KeptAt W l ((W.alloc (Obj.cells (Array.replicate no (Value.int IntKind.i64 0)) 3)).alloc (Obj.cells (Array.replicate no (Value.bool false)) 4)).drew ∧
            KeptAt W l ((W.alloc (Obj.cells (Array.replicate no (Value.bool false)) 4)).alloc (Obj.cells (Array.replicate no (Value.int IntKind.i64 0)) 3)).drew ∧ KeptAt W l (W.alloc (Obj.cells (Array.replicate no (Value.bool false)) 4)).drew) :=
          ⟨((KeptAt.refl W l).below lkW ((Below.refl _ _).alloc (Nat.le_refl _) _)).drew, (KeptAt.refl W l).below lkW (below_alloc2 _ _), (KeptAt.refl W l).below lkW (below_alloc2 _ _), ((KeptAt.refl W l).below lkW ((Below.refl _ _).alloc (Nat.le_refl _) _)).drew⟩
        refine wpAnyH_two (e1 := 10) (e2 := 14) (by kernel_rfl) rfl rfl rfl rfl (fun K hK => ?_) (fun K hK => ?_)
        · go_simp
          refine hK _ _ KA.out.1 ?_
          clear hK K
          refine wpAnyH_one (e := 14) (by kernel_rfl) rfl rfl (fun K hK => ?_)
          go_simp
          refine hK _ _ KA.out.2.1 ?_
          clear hK K
          refine anyH_named fun V hV => ?_
          have kv : KeptAt W l V := by rw [hV]; exact KA.out.2.1
          have bv : Below W.heap.size W V := by rw [hV]; exact below_alloc2 _ _
          have hs0 : V.heap[W.heap.size]? = some (.cells (Array.replicate no (.int .i64 0)) 3 (0, 0)) := by rw [hV]; (simp only [World.alloc, World.drew, Array.getElem?_push, Array.size_push]; (repeat (first | rw [if_neg (by omega)] | rw [if_pos (by omega)] | rw [if_pos trivial])); first | done | fail)
          have hc0 : V.heap[W.heap.size + 1]? = some (.cells (Array.replicate no (.bool false)) 4 (0, 0)) := by rw [hV]; (simp only [World.alloc, World.drew, Array.getElem?_push, Array.size_push]; (repeat (first | rw [if_neg (by omega)] | rw [if_pos (by omega)] | rw [if_pos trivial])); first | done | fail)
          have vz : V.heap.size = W.heap.size + 2 := by rw [hV]; show ((W.alloc _).alloc _).heap.size = _; rw [World.size_alloc, World.size_alloc]
          have KV := Lib.hid kv
          have BV := Lib.hid bv
          have HS0 := Lib.hid hs0
          have HC0 := Lib.hid hc0
          clear hV kv bv hs0 hc0
          refine wpAnyH_one (e := 15) (by kernel_rfl) rfl rfl (fun K hK => ?_)
          go_simp
          refine hK _ _ KV.out ?_
          clear hK K
          refine wpAnyH_one (e := 16) (by kernel_rfl) rfl rfl (fun K hK => ?_)
          go_simp
          have lkV : ∀ p ∈ l, p.block < V.heap.size := fun p hp => by have := lkW p hp; omega
          refine hK _ _ (KV.out.below lkV ((Below.refl _ _).alloc (Nat.le_refl _) _)) ?_
          clear hK K
          refine wpAnyH_one (e := 17) (by kernel_rfl) rfl rfl (fun K hK => ?_)
          go_simp
          refine hK _ _ (KV.out.below lkV ((Below.refl _ _).alloc (Nat.le_refl _) _ |>.alloc (by rw [World.size_alloc]; omega) _)) ?_
          clear hK K
          refine wpAnyH_one (e := 18) (by kernel_rfl) rfl rfl (fun K hK => ?_)
          have O1 := (PW'.out.below BV.out).ownsParts
          rw [HPV.out] at O1
          have O2 := (O1.alloc (Obj.cells #[.int .i64 pk, .int .i64 phr, .int .i64 pcy, .bool pkn, .int .i64 (-1), .int .i64 (-1), .slice (some ⟨W.heap.size, 0, none⟩) no no, .slice (some ⟨W.heap.size + 1, 0, none⟩) no no] 116)).alloc (Obj.cells #[.pointer (some ⟨W.heap.size + 2, 0, none⟩)] 112)
          have hv2 : ((V.alloc (Obj.cells #[.int .i64 pk, .int .i64 phr, .int .i64 pcy, .bool pkn, .int .i64 (-1), .int .i64 (-1), .slice (some ⟨W.heap.size, 0, none⟩) no no, .slice (some ⟨W.heap.size + 1, 0, none⟩) no no] 116)).alloc (Obj.cells #[.pointer (some ⟨W.heap.size + 2, 0, none⟩)] 112)).heap.size = W.heap.size + 4 := by rw [World.size_alloc, World.size_alloc]; omega
          have hnw : ((V.alloc (Obj.cells #[.int .i64 pk, .int .i64 phr, .int .i64 pcy, .bool pkn, .int .i64 (-1), .int .i64 (-1), .slice (some ⟨W.heap.size, 0, none⟩) no no, .slice (some ⟨W.heap.size + 1, 0, none⟩) no no] 116)).alloc (Obj.cells #[.pointer (some ⟨W.heap.size + 2, 0, none⟩)] 112)).heap[W.heap.size + 2 + 1]? = some (Obj.cells #[.pointer (some ⟨W.heap.size + 2, 0, none⟩)] 112) := by
            have h1 : (V.alloc (Obj.cells #[.int .i64 pk, .int .i64 phr, .int .i64 pcy, .bool pkn, .int .i64 (-1), .int .i64 (-1), .slice (some ⟨W.heap.size, 0, none⟩) no no, .slice (some ⟨W.heap.size + 1, 0, none⟩) no no] 116)).heap.size = W.heap.size + 2 + 1 := by rw [World.size_alloc]; omega
            rw [← h1]; exact heap_alloc_new _ _
          have hB1 : w.heap.size + 1 ≤ ((V.alloc (Obj.cells #[.int .i64 pk, .int .i64 phr, .int .i64 pcy, .bool pkn, .int .i64 (-1), .int .i64 (-1), .slice (some ⟨W.heap.size, 0, none⟩) no no, .slice (some ⟨W.heap.size + 1, 0, none⟩) no no] 116)).alloc (Obj.cells #[.pointer (some ⟨W.heap.size + 2, 0, none⟩)] 112)).heap.size := by have := PW'.out.base; omega
          have hk63 : k + 1 ≤ maxLen := by simp only [maxLen]; omega
          have hk16 : (k + 1) * 8 ≤ 140737488355328 := by omega
          obtain ⟨ip, hip, hz0, hz1, hz2⟩ := info_parts info_pp
          refine wp_append_lies _ _ _ _ (by rfl) (w.heap.size + 1) 112 ip _ 1 8 Tryd.underlying129 hip hz0 hz1 hz2 rfl (by decide) pv k ((List.range k).map (fun i => Value.pointer (some ⟨L.pb i, 0, none⟩))) (by rfl) O2 ⟨W.heap.size + 2 + 1, 0, none⟩ 1 1 [.pointer (some ⟨W.heap.size + 2, 0, none⟩)] (by rfl) (by rfl) (World.news_of_block (cs := #[.pointer (some ⟨W.heap.size + 2, 0, none⟩)]) (t := 112) (fr := (0, 0)) hnw) (by simp [Value.oneCell']) (by decide) hk63 hk16 hB1 (W.heap.size + 4) hv2 ?_
          intro g cap w4 O4 G4 A4 g4
          have lkG : ∀ p ∈ l, p.block < ((V.alloc (Obj.cells #[.int .i64 pk, .int .i64 phr, .int .i64 pcy, .bool pkn, .int .i64 (-1), .int .i64 (-1), .slice (some ⟨W.heap.size, 0, none⟩) no no, .slice (some ⟨W.heap.size + 1, 0, none⟩) no no] 116)).alloc (Obj.cells #[.pointer (some ⟨W.heap.size + 2, 0, none⟩)] 112)).heap.size ∧ some p.block ≠ pv.ownBlock := fun p hp => ⟨by rw [hv2]; have := lkW p hp; omega, OWN.out p hp⟩
          have K3 := (KV.out.below lkV ((Below.refl _ _).alloc (Nat.le_refl _) _ |>.alloc (by rw [World.size_alloc]; omega) _)).grown lkG G4
          refine hK _ _ K3 ?_
          clear hK K
          have z4 : w4.cell? ⟨hb, 4, none⟩ = some pv := by obtain ⟨x3, hx3⟩ := K3; rw [hx3]; exact x3.cell (by rw [HLL.out]; simp) c4
          have zf : w4.frozen? ⟨hb, 4, none⟩ = false := by obtain ⟨x3, hx3⟩ := K3; rw [hx3]; exact x3.frozen (by rw [HLL.out]; simp) f4
          have NX := Lib.hid (next_round (s0 := W.heap.size) (c0 := W.heap.size + 1) PW'.out EL.out ER.out EB.out BW'.out HLW.out BV.out vz HNO.out HS0.out HC0.out (by omega) (by omega) (by omega) HP.out HPV.out O4 G4 A4)
          clear O4 G4 A4 lkG O1 O2 hv2 hnw hB1 hk63 hk16 hip hz0 hz1 hz2 y0 y1 y2 y3 y4 y5 y6 y7 d0 d1 d2 d3 s0 s1 c3
          refine wpAnyH_one (e := 19) (by kernel_rfl) rfl rfl (fun K hK => ?_)
          go_simp
          refine hK _ _ K3 ?_
          clear hK K
          refine wpAnyH_one (e := 20) (by kernel_rfl) rfl rfl (fun K hK => ?_)
          go_simp
          refine hK _ _ K3 ?_
          clear hK K
          refine wpAnyH_fin_lit rfl rfl rfl rfl (by kernel_rfl) (by kernel_rfl) K3 ?_
          go_simp
          rename_i KK hKK
          refine hKK _ _ ?_
          clear hKK KK z4 zf K3
          obtain ⟨w5, hw5⟩ : ∃ w5, w4.setCell ⟨hb, 4, none⟩ (.slice (some ⟨g, 0, none⟩) (k + 1) cap) = w5 := ⟨_, rfl⟩
          rw [hw5] at NX ⊢
          clear hw5
          obtain ⟨L', n1, n2, n3, n4⟩ := NX.out
          clear NX
          go_wp2
          go_roundg (np - (k + 1))
          case rel => exact ⟨k + 1, L', by omega, by omega, by go_num, n1, n2, n3, n4⟩
          case measure => omega
        · go_simp
          refine hK _ _ KA.out.2.2.2 ?_
          clear hK K
          refine wpAnyH_one (e := 10) (by kernel_rfl) rfl rfl (fun K hK => ?_)
          go_simp
          refine hK _ _ KA.out.2.2.1 ?_
          clear hK K
          refine anyH_named fun V hV => ?_
          have kv : KeptAt W l V := by rw [hV]; exact KA.out.2.2.1
          have bv : Below W.heap.size W V := by rw [hV]; exact below_alloc2 _ _
          have hs0 : V.heap[W.heap.size + 1]? = some (.cells (Array.replicate no (.int .i64 0)) 3 (0, 0)) := by rw [hV]; (simp only [World.alloc, World.drew, Array.getElem?_push, Array.size_push]; (repeat (first | rw [if_neg (by omega)] | rw [if_pos (by omega)] | rw [if_pos trivial])); first | done | fail)
          have hc0 : V.heap[W.heap.size]? = some (.cells (Array.replicate no (.bool false)) 4 (0, 0)) := by rw [hV]; (simp only [World.alloc, World.drew, Array.getElem?_push, Array.size_push]; (repeat (first | rw [if_neg (by omega)] | rw [if_pos (by omega)] | rw [if_pos trivial])); first | done | fail)
          have vz : V.heap.size = W.heap.size + 2 := by rw [hV]; show ((W.alloc _).alloc _).heap.size = _; rw [World.size_alloc, World.size_alloc]
          have KV := Lib.hid kv
          have BV := Lib.hid bv
          have HS0 := Lib.hid hs0
          have HC0 := Lib.hid hc0
          clear hV kv bv hs0 hc0
          refine wpAnyH_one (e := 15) (by kernel_rfl) rfl rfl (fun K hK => ?_)
          go_simp
          refine hK _ _ KV.out ?_
          clear hK K
          refine wpAnyH_one (e := 16) (by kernel_rfl) rfl rfl (fun K hK => ?_)
          go_simp
          have lkV : ∀ p ∈ l, p.block < V.heap.size := fun p hp => by have := lkW p hp; omega
          refine hK _ _ (KV.out.below lkV ((Below.refl _ _).alloc (Nat.le_refl _) _)) ?_
          clear hK K
          refine wpAnyH_one (e := 17) (by kernel_rfl) rfl rfl (fun K hK => ?_)
          go_simp
          refine hK _ _ (KV.out.below lkV ((Below.refl _ _).alloc (Nat.le_refl _) _ |>.alloc (by rw [World.size_alloc]; omega) _)) ?_
          clear hK K
          refine wpAnyH_one (e := 18) (by kernel_rfl) rfl rfl (fun K hK => ?_)
          have O1 := (PW'.out.below BV.out).ownsParts
          rw [HPV.out] at O1
          have O2 := (O1.alloc (Obj.cells #[.int .i64 pk, .int .i64 phr, .int .i64 pcy, .bool pkn, .int .i64 (-1), .int .i64 (-1), .slice (some ⟨W.heap.size + 1, 0, none⟩) no no, .slice (some ⟨W.heap.size, 0, none⟩) no no] 116)).alloc (Obj.cells #[.pointer (some ⟨W.heap.size + 2, 0, none⟩)] 112)
          have hv2 : ((V.alloc (Obj.cells #[.int .i64 pk, .int .i64 phr, .int .i64 pcy, .bool pkn, .int .i64 (-1), .int .i64 (-1), .slice (some ⟨W.heap.size + 1, 0, none⟩) no no, .slice (some ⟨W.heap.size, 0, none⟩) no no] 116)).alloc (Obj.cells #[.pointer (some ⟨W.heap.size + 2, 0, none⟩)] 112)).heap.size = W.heap.size + 4 := by rw [World.size_alloc, World.size_alloc]; omega
          have hnw : ((V.alloc (Obj.cells #[.int .i64 pk, .int .i64 phr, .int .i64 pcy, .bool pkn, .int .i64 (-1), .int .i64 (-1), .slice (some ⟨W.heap.size + 1, 0, none⟩) no no, .slice (some ⟨W.heap.size, 0, none⟩) no no] 116)).alloc (Obj.cells #[.pointer (some ⟨W.heap.size + 2, 0, none⟩)] 112)).heap[W.heap.size + 2 + 1]? = some (Obj.cells #[.pointer (some ⟨W.heap.size + 2, 0, none⟩)] 112) := by
            have h1 : (V.alloc (Obj.cells #[.int .i64 pk, .int .i64 phr, .int .i64 pcy, .bool pkn, .int .i64 (-1), .int .i64 (-1), .slice (some ⟨W.heap.size + 1, 0, none⟩) no no, .slice (some ⟨W.heap.size, 0, none⟩) no no] 116)).heap.size = W.heap.size + 2 + 1 := by rw [World.size_alloc]; omega
            rw [← h1]; exact heap_alloc_new _ _
          have hB1 : w.heap.size + 1 ≤ ((V.alloc (Obj.cells #[.int .i64 pk, .int .i64 phr, .int .i64 pcy, .bool pkn, .int .i64 (-1), .int .i64 (-1), .slice (some ⟨W.heap.size + 1, 0, none⟩) no no, .slice (some ⟨W.heap.size, 0, none⟩) no no] 116)).alloc (Obj.cells #[.pointer (some ⟨W.heap.size + 2, 0, none⟩)] 112)).heap.size := by have := PW'.out.base; omega
          have hk63 : k + 1 ≤ maxLen := by simp only [maxLen]; omega
          have hk16 : (k + 1) * 8 ≤ 140737488355328 := by omega
          obtain ⟨ip, hip, hz0, hz1, hz2⟩ := info_parts info_pp
          refine wp_append_lies _ _ _ _ (by rfl) (w.heap.size + 1) 112 ip _ 1 8 Tryd.underlying129 hip hz0 hz1 hz2 rfl (by decide) pv k ((List.range k).map (fun i => Value.pointer (some ⟨L.pb i, 0, none⟩))) (by rfl) O2 ⟨W.heap.size + 2 + 1, 0, none⟩ 1 1 [.pointer (some ⟨W.heap.size + 2, 0, none⟩)] (by rfl) (by rfl) (World.news_of_block (cs := #[.pointer (some ⟨W.heap.size + 2, 0, none⟩)]) (t := 112) (fr := (0, 0)) hnw) (by simp [Value.oneCell']) (by decide) hk63 hk16 hB1 (W.heap.size + 4) hv2 ?_
          intro g cap w4 O4 G4 A4 g4
          have lkG : ∀ p ∈ l, p.block < ((V.alloc (Obj.cells #[.int .i64 pk, .int .i64 phr, .int .i64 pcy, .bool pkn, .int .i64 (-1), .int .i64 (-1), .slice (some ⟨W.heap.size + 1, 0, none⟩) no no, .slice (some ⟨W.heap.size, 0, none⟩) no no] 116)).alloc (Obj.cells #[.pointer (some ⟨W.heap.size + 2, 0, none⟩)] 112)).heap.size ∧ some p.block ≠ pv.ownBlock := fun p hp => ⟨by rw [hv2]; have := lkW p hp; omega, OWN.out p hp⟩
          have K3 := (KV.out.below lkV ((Below.refl _ _).alloc (Nat.le_refl _) _ |>.alloc (by rw [World.size_alloc]; omega) _)).grown lkG G4
          refine hK _ _ K3 ?_
          clear hK K
          have z4 : w4.cell? ⟨hb, 4, none⟩ = some pv := by obtain ⟨x3, hx3⟩ := K3; rw [hx3]; exact x3.cell (by rw [HLL.out]; simp) c4
          have zf : w4.frozen? ⟨hb, 4, none⟩ = false := by obtain ⟨x3, hx3⟩ := K3; rw [hx3]; exact x3.frozen (by rw [HLL.out]; simp) f4
          have NX := Lib.hid (next_round (s0 := W.heap.size + 1) (c0 := W.heap.size) PW'.out EL.out ER.out EB.out BW'.out HLW.out BV.out vz HNO.out HS0.out HC0.out (by omega) (by omega) (by omega) HP.out HPV.out O4 G4 A4)
          clear O4 G4 A4 lkG O1 O2 hv2 hnw hB1 hk63 hk16 hip hz0 hz1 hz2 y0 y1 y2 y3 y4 y5 y6 y7 d0 d1 d2 d3 s0 s1 c3
          refine wpAnyH_one (e := 19) (by kernel_rfl) rfl rfl (fun K hK => ?_)
          go_simp
          refine hK _ _ K3 ?_
          clear hK K
          refine wpAnyH_one (e := 20) (by kernel_rfl) rfl rfl (fun K hK => ?_)
          go_simp
          refine hK _ _ K3 ?_
          clear hK K
          refine wpAnyH_fin_lit rfl rfl rfl rfl (by kernel_rfl) (by kernel_rfl) K3 ?_
          go_simp
          rename_i KK hKK
          refine hKK _ _ ?_
          clear hKK KK z4 zf K3
          obtain ⟨w5, hw5⟩ : ∃ w5, w4.setCell ⟨hb, 4, none⟩ (.slice (some ⟨g, 0, none⟩) (k + 1) cap) = w5 := ⟨_, rfl⟩
          rw [hw5] at NX ⊢
          clear hw5
          obtain ⟨L', n1, n2, n3, n4⟩ := NX.out
          clear NX
          go_wp2
          go_roundg (np - (k + 1))
          case rel => exact ⟨k + 1, L', by omega, by omega, by go_num, n1, n2, n3, n4⟩
          case measure => omega
      · have hltz : ¬ (k : Int) < (np : Int) := by omega
        have : k = np := by omega
        subst this
        go_wp2
        go_ret
        refine ⟨L, by rw [EL.out.1]; rfl, EB.out, ?_⟩
        have hd := EP.out
        rw [← HNP.out] at hd
        exact hd.done
end Go.Proofs.YtchnhjffpldpiaaDoor
