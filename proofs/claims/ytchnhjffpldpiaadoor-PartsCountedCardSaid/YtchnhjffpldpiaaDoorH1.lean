/- The hangar's small methods, walked: machine, part, order, at. -/
import Derived.Test.YtchnhjffpldpiaaDoorMem
import Derived.Deep.QuietTactic
import Derived.BigQuiet
namespace Go.Proofs.YtchnhjffpldpiaaDoor
open Go.RowKit
attribute [local go_sem] eqi_spot eqi_pair gd_spot gd_pair

variable {w : World} {B : Nat} {L : HL} {H : HS}

theorem IsH.h0 (h : IsH w B L H) : w.cell? ⟨L.hb, 0, none⟩ = some (.slice L.ka H.reg.kinds.length L.kc) := (h.cell .h trivial 0).trans rfl
theorem IsH.h2 (h : IsH w B L H) : w.cell? ⟨L.hb, 2, none⟩ = some (.int .i64 H.reg.machines) := (h.cell .h trivial 2).trans rfl
theorem IsH.h3 (h : IsH w B L H) : w.cell? ⟨L.hb, 3, none⟩ = some (.slice L.oa H.reg.orders.length L.oc) := (h.cell .h trivial 3).trans rfl
theorem IsH.h4 (h : IsH w B L H) : w.cell? ⟨L.hb, 4, none⟩ = some (partsV L H.parts.length) := (h.cell .h trivial 4).trans rfl
theorem IsH.h5 (h : IsH w B L H) : w.cell? ⟨L.hb, 5, none⟩ = some (.slice (some ⟨L.ib, 0, none⟩) H.reg.orders.length H.reg.orders.length) := (h.cell .h trivial 5).trans rfl
theorem IsH.h6 (h : IsH w B L H) : w.cell? ⟨L.hb, 6, none⟩ = some (.slice (some ⟨L.fb, 0, none⟩) H.flown.length H.flown.length) := (h.cell .h trivial 6).trans rfl
theorem IsH.h7 (h : IsH w B L H) : w.cell? ⟨L.hb, 7, none⟩ = some (.int .i64 H.works) := (h.cell .h trivial 7).trans rfl
theorem IsH.h8 (h : IsH w B L H) : w.cell? ⟨L.hb, 8, none⟩ = some (.slice (some ⟨L.hr, 0, none⟩) H.parts.length H.parts.length) := (h.cell .h trivial 8).trans rfl

/-- The slice of the parts, its address aside. -/
theorem partsV_eq (L : HL) (np : Nat) : ∃ a c, partsV L np = .slice a np c ∧ (0 < np → a = some ⟨L.pr, 0, none⟩) := by
  unfold partsV
  split
  · rename_i h; subst h; exact ⟨none, 0, rfl, fun h => absurd h (by omega)⟩
  · exact ⟨_, _, rfl, fun _ => rfl⟩

/-- Bounds that a valid register gives. -/
structure RegR.Small (r : RegR) : Prop where
  nk : r.kinds.length ≤ 6
  np : r.parts.length ≤ 24
  no : r.orders.length ≤ 6
  m0 : 0 ≤ r.machines
  m1 : r.machines ≤ 4
  kinds : ∀ i, i < r.kinds.length → 1 ≤ (r.kinds[i]!).hours ∧ (r.kinds[i]!).hours ≤ 100000 ∧ 1 ≤ (r.kinds[i]!).cycles ∧ (r.kinds[i]!).cycles ≤ 100000 ∧ 0 ≤ (r.kinds[i]!).places ∧ (r.kinds[i]!).places ≤ 4
  parts : ∀ i, i < r.parts.length → 0 ≤ (r.parts[i]!).kind ∧ (r.parts[i]!).kind < r.kinds.length ∧ 0 ≤ (r.parts[i]!).hours ∧ (r.parts[i]!).hours ≤ 100000 ∧ 0 ≤ (r.parts[i]!).cycles ∧ (r.parts[i]!).cycles ≤ 100000
  orders : ∀ i, i < r.orders.length → 0 ≤ (r.orders[i]!).kind ∧ (r.orders[i]!).kind < r.kinds.length ∧ 0 ≤ (r.orders[i]!).within ∧ (r.orders[i]!).within ≤ 100000

theorem small_of_valid {r : RegR} (h : validReg r = true) : r.Small := by
  unfold validReg at h
  simp only [Bool.and_eq_true, Bool.not_eq_true', Bool.or_eq_false_iff, decide_eq_false_iff_not, List.any_eq_false] at h
  obtain ⟨⟨⟨⟨h1, h2⟩, h3⟩, h4⟩, ⟨h5, h6⟩, h7⟩ := h
  simp only [Bool.not_eq_false', inB_iff] at h4
  refine ⟨by omega, by omega, by omega, h4.1, h4.2, fun i hi => ?_, fun i hi => ?_, fun i hi => ?_⟩
  · have := h5 _ (List.getElem_mem hi)
    rw [getElem!_pos _ i hi]
    simp [badKind, inB] at this
    omega
  · have := h6 _ (List.getElem_mem hi)
    rw [getElem!_pos _ i hi]
    simp [badPart, inB] at this
    omega
  · have := h7 _ (List.getElem_mem hi)
    rw [getElem!_pos _ i hi]
    simp [badOrder, inB] at this
    omega

set_option maxHeartbeats 400000 in
theorem machine_any (h : IsH w B L H) (hf : H.Fit) (n : Int) :
    Calls Tryd.prog 65 #[.pointer (some ⟨L.hb, 0, none⟩), .int .i64 n] w fun e w' => e = .returned (.bool (H.machine n)) ∧ w = w' := by
  have hs := small_of_valid hf.valid
  have hm0 := hs.m0
  have hm1 := hs.m1
  have c2 := h.h2
  have HH := Lib.hid h
  clear h hs hf
  go_enter Tryd.func65, Tryd.ntmps65
  go_wp2_with (first | (go_at_call 66; refine (within_any _ _ _ _).mono ?_; rintro e w' ⟨rfl, rfl⟩))
  go_ret
  exact ⟨rfl, rfl⟩

set_option maxHeartbeats 400000 in
theorem order_any (h : IsH w B L H) (hf : H.Fit) (n : Int) :
    Calls Tryd.prog 84 #[.pointer (some ⟨L.hb, 0, none⟩), .int .i64 n] w fun e w' => e = .returned (.bool (H.order n)) ∧ w = w' := by
  have hs := small_of_valid hf.valid
  have hm0 := hs.no
  have c3 := h.h3
  have HH := Lib.hid h
  clear h hs hf
  go_enter Tryd.func84, Tryd.ntmps84
  go_wp2_with (first | (go_at_call 66; refine (within_any _ _ _ _).mono ?_; rintro e w' ⟨rfl, rfl⟩))
  go_ret
  exact ⟨rfl, rfl⟩

set_option maxHeartbeats 400000 in
theorem part_any (h : IsH w B L H) (hf : H.Fit) (n : Int) :
    Calls Tryd.prog 75 #[.pointer (some ⟨L.hb, 0, none⟩), .int .i64 n] w fun e w' => e = .returned (.bool (H.part n)) ∧ w = w' := by
  have hs := small_of_valid hf.valid
  have hm0 : H.parts.length ≤ 24 := by rw [hf.parts]; exact hs.np
  obtain ⟨a, c, hv, ha⟩ := partsV_eq L H.parts.length
  have c4 := h.h4
  rw [hv] at c4
  clear h hs hf hv ha
  go_enter Tryd.func75, Tryd.ntmps75
  go_wp2_with (first | (go_at_call 66; refine (within_any _ _ _ _).mono ?_; rintro e w' ⟨rfl, rfl⟩))
  go_ret
  exact ⟨rfl, rfl⟩

set_option maxHeartbeats 400000 in
theorem atlit_any (pb kb ib : Nat) (pk k pm pl m l : Int) (w : World)
   (h0 : w.cell? ⟨pb, 0, none⟩ = some (.int .i64 pk))
   (h4 : w.cell? ⟨pb, 4, none⟩ = some (.int .i64 pm))
   (h5 : w.cell? ⟨pb, 5, none⟩ = some (.int .i64 pl))
   (hk : w.cell? ⟨kb, 0, none⟩ = some (.int .i64 k))
   (hi0 : w.cell? ⟨ib, 0, none⟩ = some (.int .i64 m))
   (hi1 : w.cell? ⟨ib, 1, none⟩ = some (.int .i64 l))
    :
    Calls Tryd.prog 129 #[.pointer (some ⟨pb, 0, none⟩), .pointer (some ⟨kb, 0, none⟩), .pointer (some ⟨ib, 0, none⟩)] w fun e w' =>
      e = .returned (.bool (pk == k && (pm == m && pl == l))) ∧ Below w.heap.size w w' := by
  go_enter Tryd.func129, Tryd.ntmps129
  go_wp2
  by_cases hg : pk = k
  · subst hg
    go_quiet (fail)
    go_wp2
    go_ret
    exact ⟨ret_bool (by simp), below_drewN (Below.refl _ _) _⟩
  · have hd : decide (pk = k) = false := by simpa using hg
    have hb : (pk == k) = false := by simpa using hg
    go_quiet (fail)
    go_wp2
    go_ret
    exact ⟨ret_bool (by simp [hb]), below_drewN (Below.refl _ _) _⟩

theorem IsH.p_cell (h : IsH w B L H) {i : Nat} (hi : i < H.parts.length) (j : Nat) : w.cell? ⟨L.pb i, j, none⟩ = (partCells L H.parts[i]! H.reg.orders.length i)[j]? := h.cell (.part i) hi j

/-- The parts' blocks beside the parts. -/
def HL.zip (L : HL) (H : HS) : List (Nat × PS) := (List.range H.parts.length).map fun i => (L.pb i, H.parts[i]!)
theorem HL.zip_len (L : HL) (H : HS) : (L.zip H).length = H.parts.length := by simp [HL.zip]
theorem HL.zip_get (L : HL) (H : HS) (j : Nat) (hj : j < H.parts.length) : (L.zip H)[j]! = (L.pb j, H.parts[j]!) := by
  rw [getElem!_pos _ j (by simpa [HL.zip] using hj)]
  simp [HL.zip]
theorem HL.zip_snd (L : HL) (H : HS) : (L.zip H).map Prod.snd = H.parts := by
  simp only [HL.zip, List.map_map]
  apply List.ext_getElem
  · simp
  · intro i h1 h2
    simp [List.getElem?_eq_getElem h2]

theorem IsH.rdParts (h : IsH w B L H) (hf : H.Fit) (a : Option Addr) (ha : 0 < H.parts.length → a = some ⟨L.pr, 0, none⟩) : Rd encPtr 1 w w.heap.size a H.parts.length (L.zip H) := by
  have hs := small_of_valid hf.valid
  refine ⟨(L.zip_len H).symm, by have := hs.np; have := hf.parts; omega, L.pr, 0, fun hn => ⟨ha hn, h.lt .pr hn⟩, fun j hj i u hu => ?_⟩
  rw [L.zip_get H j hj] at hu
  cases i with
  | zero =>
    simp only [encPtr, List.getElem?_cons_zero, Option.some.injEq] at hu
    subst hu
    rw [show 0 + j * 1 + 0 = j by omega, show L.pr = L.blk .pr from rfl, h.cell .pr (by show 0 < _; omega) j]
    simp [cellsOf, List.getElem?_append_left, hj]
  | succ i => simp [encPtr] at hu

set_option maxHeartbeats 400000 in
theorem at_any (h : IsH w B L H) (hf : H.Fit) (kind m pl : Int) :
    Calls Tryd.prog 104 #[.pointer (some ⟨L.hb, 0, none⟩), .int .i64 kind, .agg #[.int .i64 m, .int .i64 pl]] w fun e w' => e = .returned (.int .i64 (H.at kind m pl)) ∧ Below w.heap.size w w' := by
  obtain ⟨a, c, hv, ha⟩ := partsV_eq L H.parts.length
  have c4 := h.h4
  rw [hv] at c4
  have hlt : L.hb < w.heap.size := h.lt .h trivial
  have HH := Lib.hid h
  have HF := Lib.hid hf
  have HA := Lib.hid ha
  clear h hf hv ha
  have eg := enters_of (P := Tryd.prog) Tryd.func129 (by kernel_rfl) rfl
  go_enter Tryd.func104, Tryd.ntmps104
  go_wp2_with fail
  refine Calls_named fun W hW => ?_
  have hb : Below w.heap.size w W := by rw [hW]; exact ((Below.refl _ _).alloc (Nat.le_refl _) _).alloc (by simp) _
  have hk : W.cell? ⟨w.heap.size, 0, none⟩ = some (.int .i64 kind) := by rw [hW]; simp [World.cell?_alloc_old]
  have hi0 : W.cell? ⟨w.heap.size + 1, 0, none⟩ = some (.int .i64 m) := by rw [hW, cell_new1]; rfl
  have hi1 : W.cell? ⟨w.heap.size + 1, 1, none⟩ = some (.int .i64 pl) := by rw [hW, cell_new1]; rfl
  have hsz : W.heap.size = w.heap.size + 2 := by rw [hW]; simp
  clear hW
  have h2 := HH.out.below hb
  refine (index_part (L.zip H) (fun x => isAt kind m pl x.2) _ _ eg a H.parts.length c W W.heap.size (Nat.le_refl _) (h2.rdParts HF.out a HA.out) (fun j hj W' hW' => ?_)).mono ?_
  · rw [L.zip_len] at hj
    rw [L.zip_get H j hj]
    have h3 := h2.below hW'
    refine (atlit_any (L.pb j) w.heap.size (w.heap.size + 1) _ kind _ _ m pl W' ((h3.p_cell hj 0).trans rfl) ((h3.p_cell hj 4).trans rfl) ((h3.p_cell hj 5).trans rfl) ?_ ?_ ?_).mono ?_
    · rw [hW'.cell (by simp; omega)]; exact hk
    · rw [hW'.cell (by simp; omega)]; exact hi0
    · rw [hW'.cell (by simp; omega)]; exact hi1
    · rintro e w' ⟨rfl, hb'⟩
      exact ⟨rfl, hb'⟩
  · rintro e w' ⟨rfl, hb'⟩
    go_wp2
    go_ret
    refine ⟨?_, hb.trans (hb'.mono (by omega))⟩
    rw [idxFrom_map Prod.snd (isAt kind m pl), L.zip_snd]
    rfl

end Go.Proofs.YtchnhjffpldpiaaDoor
