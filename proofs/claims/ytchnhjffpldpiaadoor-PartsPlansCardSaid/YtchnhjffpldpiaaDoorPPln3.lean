/- parts.Plan walked. -/
import Derived.Test.YtchnhjffpldpiaaDoorPPln2
namespace Go.Proofs.YtchnhjffpldpiaaDoor
open Go Go.RowKit

variable {spares flights : List Int} {a a2 : Option Addr} {n c n2 c2 : Nat} {w : World} {B : Nat}

set_option maxHeartbeats 400000 in
theorem badSpare_any (x : Int) (w : World) :
    Calls Tryd.prog 89 (#[val_int x] ++ #[]) w fun e w' => e = .returned (.bool (badSpare x)) ∧ Below w.heap.size w w' := by
  simp only [val_int, Array.append_empty]
  go_enter Tryd.func89, Tryd.ntmps89
  go_wp2_with (go_at_call 66; refine (within_any _ _ _ _).mono ?_; rintro e w' ⟨rfl, rfl⟩)
  all_goals
    go_ret
    exact ⟨ret_bool (by simp [badSpare]), Below.refl _ _⟩
set_option maxHeartbeats 400000 in
theorem badFlight_any (x : Int) (w : World) :
    Calls Tryd.prog 90 (#[val_int x] ++ #[]) w fun e w' => e = .returned (.bool (badFlight x)) ∧ Below w.heap.size w w' := by
  simp only [val_int, Array.append_empty]
  go_enter Tryd.func90, Tryd.ntmps90
  go_wp2_with (go_at_call 66; refine (within_any _ _ _ _).mono ?_; rintro e w' ⟨rfl, rfl⟩)
  all_goals
    go_ret
    exact ⟨ret_bool (by simp [badFlight]), Below.refl _ _⟩

/-- The two looks over the lists. -/
theorem looks_any (hS : Rd encInt 1 w B a n spares) (hF : Rd encInt 1 w B a2 n2 flights) (hB : B ≤ w.heap.size) (r2 r4 : Bool) (h2 : spares.any badSpare = r2) (h4 : flights.any badFlight = r4) :
    Hid (∀ W, Below w.heap.size w W → Calls Tryd.prog 88 #[.slice a n c, .func (.func 89) #[] #[]] W fun e w' => e = .returned (.bool r2) ∧ Below w.heap.size w w') ∧
    Hid (∀ W, Below w.heap.size w W → Calls Tryd.prog 88 #[.slice a2 n2 c2, .func (.func 90) #[] #[]] W fun e w' => e = .returned (.bool r4) ∧ Below w.heap.size w w') := by
  constructor
  · intro W hW
    exact (contains_int spares badSpare 89 #[] (enters_of (P := Tryd.prog) Tryd.func89 (by kernel_rfl) rfl) a n c W B (Nat.le_trans hB hW.size) (hS.below (hW.mono hB)) (fun j _ W _ => badSpare_any _ W)).mono fun e w' h => ⟨by rw [h.1, h2], hW.trans (h.2.mono hW.size)⟩
  · intro W hW
    exact (contains_int flights badFlight 90 #[] (enters_of (P := Tryd.prog) Tryd.func90 (by kernel_rfl) rfl) a2 n2 c2 W B (Nat.le_trans hB hW.size) (hF.below (hW.mono hB)) (fun j _ W _ => badFlight_any _ W)).mono fun e w' h => ⟨by rw [h.1, h4], hW.trans (h.2.mono hW.size)⟩

set_option maxRecDepth 100000 in
set_option maxHeartbeats 1000000 in
theorem plan_err (hB : B ≤ w.heap.size) (hS : Rd encInt 1 w B a n spares) (hF : Rd encInt 1 w B a2 n2 flights) (h1 : planE spares flights = 1) :
    Calls Tryd.prog 45 #[.slice a n c, .slice a2 n2 c2] w fun e w' => e = .returned (.tuple #[.slice none 0 0, .int .i64 0, .int .i64 1]) ∧ Below w.heap.size w w' := by
  obtain ⟨r1, hr1⟩ : ∃ r, inB (n : Int) 1 6 = r := ⟨_, rfl⟩
  obtain ⟨r2, hr2⟩ : ∃ r, spares.any badSpare = r := ⟨_, rfl⟩
  obtain ⟨r4, hr4⟩ : ∃ r, flights.any badFlight = r := ⟨_, rfl⟩
  obtain ⟨L1, L2⟩ := looks_any (c := c) (c2 := c2) hS hF hB r2 r4 hr2 hr4
  have W1 := Lib.hid (within_r (n : Int) 1 6 r1 hr1)
  have hl := hS.len
  have hl2 := hF.len
  unfold planE at h1
  rw [← hl, ← hl2, hr1, hr2, hr4] at h1
  have B0 := Lib.hid (Below.refl w.heap.size w)
  clear hS hF hB hr1 hr2 hr4 hl hl2
  cases r1 with
  | false =>
    clear h1
    go_enter Tryd.func45, Tryd.ntmps45
    go_wp2_with (go_at_call 66; refine (W1.out _).mono ?_; rintro e w' ⟨rfl, rfl⟩)
    go_ret3
    exact ⟨rfl, Below.refl _ _⟩
  | true =>
    cases r2 with
    | true =>
      clear h1
      go_enter Tryd.func45, Tryd.ntmps45
      go_wp2_with (first
        | (go_at_call 66; refine (W1.out _).mono ?_; rintro e w' ⟨rfl, rfl⟩)
        | (go_at_call 88; refine (L1.out _ B0.out).mono ?_; rintro e w1 ⟨rfl, hb1⟩))
      go_ret3
      exact ⟨rfl, hb1⟩
    | false =>
      by_cases h8 : 8 < n2
      · have h8z : (8 : Int) < (n2 : Int) := by omega
        clear h1 h8
        go_enter Tryd.func45, Tryd.ntmps45
        go_wp2_with (first
          | (go_at_call 66; refine (W1.out _).mono ?_; rintro e w' ⟨rfl, rfl⟩)
          | (go_at_call 88; refine (L1.out _ B0.out).mono ?_; rintro e w1 ⟨rfl, hb1⟩))
        go_ret3
        exact ⟨rfl, hb1⟩
      · have h8z : ¬ (8 : Int) < (n2 : Int) := by omega
        cases r4 with
        | false => rw [if_neg (by decide), if_neg h8] at h1; exact absurd h1 (by decide)
        | true =>
          have tok : True := trivial
          clear h1 h8
          go_enter Tryd.func45, Tryd.ntmps45
          go_wp2_with (first
            | (go_at_call 66; refine (W1.out _).mono ?_; rintro e w' ⟨rfl, rfl⟩)
            | (go_at_call 88; have q := tok; refine (L1.out _ B0.out).mono ?_; rintro e w1 ⟨rfl, hb1⟩; have HB1 := Lib.hid hb1; clear hb1 q tok)
            | (go_at_call 88; refine (L2.out _ HB1.out).mono ?_; rintro e w2 ⟨rfl, hb2⟩))
          go_ret3
          exact ⟨rfl, hb2⟩

theorem clone_any (hS : Rd encInt 1 w B a n spares) (h0 : 0 < n) (h6 : n ≤ 6) :
    Calls Tryd.prog 92 #[.slice a n c] w fun e w' => ∃ g cap, e = .returned (.slice (some ⟨g, 0, none⟩) n cap) ∧ OwnI 3 w' w.heap.size (.slice (some ⟨g, 0, none⟩) n cap) spares ∧ Below w.heap.size w w' := by
  obtain ⟨b, off, h1, h2⟩ := hS.ex
  obtain ⟨rfl, hb⟩ := h1 h0
  have hl := hS.len
  refine (Tryd.slices_Clone_int b off n c spares w (by omega) (by omega) (fun j hj => ?_)).mono ?_
  · have := h2 j (by omega) 0 _ rfl
    rw [Nat.mul_one, Nat.add_zero] at this
    rw [this, getElem!_pos spares j hj]
    simp [List.getD, List.getElem?_eq_getElem hj]
  · rintro e w' ⟨v', rfl, ho, hne, hbel⟩
    rw [hl, List.take_length] at ho
    obtain ⟨g, cap, rfl, _, _⟩ := row_some0 ho hne
    rw [← hl] at ho ⊢
    rw [hl] at ho
    have hO := OwnI.of_row ho (by omega)
    rw [← hl] at hO
    exact ⟨g, cap, rfl, hO, hbel⟩

def zerI (k : Nat) : Array Value := (List.replicate k (Value.int .i64 0)).toArray
theorem plm_mk {W : World} {B0 pb nb nf : Nat} {fv sv : Value} {spares : List Int} (hp : W.heap[pb]? = some (.cells #[fv, .slice none 0 0, .int .i64 0] 147 (0, 0))) (O : OwnI 3 W B0 sv spares) (hz : W.heap[nb]? = some (.cells (zerI nf) 3 (0, 0)))
    (hne : ∀ g, sv.ownBlock = some g → g ≠ nb) (hn : B0 ≤ nb) (hpb : B0 ≤ pb) (hl : nf ≤ 1000) : PlM W B0 pb fv sv (.slice (some ⟨nb, 0, none⟩) 0 nf) spares [] none :=
  ⟨⟨_, 0, hp, rfl⟩, O, ⟨rfl, .inr ⟨nb, nf, zerI nf, rfl, hn, hz, Nat.zero_le _, by simp only [maxLen]; omega, by simp [zerI], by simp⟩⟩, fun g hg e => hne g hg (by simpa [Value.ownBlock] using e.symm), hpb⟩

/-- What Plan answers of spares and flights that are in order. -/
def PlanOk (r : Option (List Int)) (nl : Nat) (m : Int) (w : World) (e : Ending) (w' : World) : Prop :=
  match r with
  | none => e = .returned (.tuple #[.slice none 0 0, .int .i64 0, .int .i64 3]) ∧ Below w.heap.size w w'
  | some l => ∃ ao cap, e = .returned (.tuple #[.slice ao nl cap, .int .i64 m, .int .i64 0]) ∧ w'.ownsRow w.heap.size 3 1 (.slice ao nl cap) nl (l.map (Value.int .i64)) ∧ Below w.heap.size w w'

set_option maxRecDepth 100000 in
set_option maxHeartbeats 4000000 in
theorem plan_ok (hB : B ≤ w.heap.size) (hS : Rd encInt 1 w B a n spares) (hF : Rd encInt 1 w B a2 n2 flights) (h1 : planE spares flights = 0) (r : Option (List Int)) (hr : plansR flights [] spares = r) (nl : Nat) (m : Int) (hnl : ∀ l, r = some l → l.length = nl ∧ chg l = m) :
    Calls Tryd.prog 45 #[.slice a n c, .slice a2 n2 c2] w fun e w' => PlanOk r nl m w e w' := by
  obtain ⟨⟨hl0, hl6⟩, hl8, hsp, hfl⟩ := planE_ok h1
  have hl := hS.len
  have hl2 := hF.len
  have hn0 : 0 < n := by omega
  have hn6 : n ≤ 6 := by omega
  have hn8 : n2 ≤ 8 := by omega
  obtain ⟨r1, hr1⟩ : ∃ r, inB (n : Int) 1 6 = r := ⟨_, rfl⟩
  obtain ⟨r2, hr2⟩ : ∃ r, spares.any badSpare = r := ⟨_, rfl⟩
  obtain ⟨r4, hr4⟩ : ∃ r, flights.any badFlight = r := ⟨_, rfl⟩
  obtain ⟨L1, L2⟩ := looks_any (c := c) (c2 := c2) hS hF hB r2 r4 hr2 hr4
  have W1 := Lib.hid (within_r (n : Int) 1 6 r1 hr1)
  unfold planE at h1
  rw [← hl, ← hl2, hr1, hr2, hr4] at h1
  have h8z : ¬ (8 : Int) < (n2 : Int) := by omega
  have CL : Hid (∀ W, Below w.heap.size w W → Calls Tryd.prog 92 #[.slice a n c] W fun e w' => ∃ g cap, e = .returned (.slice (some ⟨g, 0, none⟩) n cap) ∧ OwnI 3 w' W.heap.size (.slice (some ⟨g, 0, none⟩) n cap) spares ∧ Below W.heap.size W w') := fun W hW => clone_any (hS.below (hW.mono hB)) hn0 hn6
  have LK := Lib.hid (look_any flights hfl a2 n2 c2 hn8 flights [] spares none 0)
  have FS : Hid (∀ W, Below w.heap.size w W → Rd encInt 1 W w.heap.size a2 n2 flights) := fun W hW => (hF.up hB).below hW
  have LE : Hid (lookP flights spares [] 0 none = combP none r) := by rw [← hr]; exact look_eq flights spares [] none (fun b c h => by cases h)
  have HL := Lib.hid (And.intro hl hl2)
  have HSP := Lib.hid hsp
  have B0 := Lib.hid (Below.refl w.heap.size w)
  have HNL := Lib.hid hnl
  have mk0 : ∀ W, (Instr.makeSlice 22 (.int .i64 0) (.int .i64 (n2 : Int))).run Tryd.prog W = .ok (.slice (some ⟨W.heap.size, 0, none⟩) 0 n2) (W.alloc (.cells (zerI n2) 3)) := fun W => by
    obtain ⟨i, hi, hz0, hz1, hz2⟩ := info_parts info_i
    have h := run_make (P := Tryd.prog) W 22 3 i (.int .i64 0) Tryd.underlying22 hi hz0 .i64 .i64 0 (n2 : Int) (by omega) (by omega) (by rw [hz2]; omega) (by omega)
    rw [made_rep _ (.int .i64 0) _ (one_cell rfl), hz1] at h
    simpa [zerI] using h
  have nn := fun (W : World) (n c n' c' : Nat) (a : Option Addr) => Lib.run_eql_slice_nil (P := Tryd.prog) W 22 3 a n c n' c' Tryd.underlying22
  have hr1' : r1 = true := by cases r1 with
    | true => rfl
    | false => rw [if_pos (show (!false) = true from rfl)] at h1; exact absurd h1 (by decide)
  subst hr1'
  rw [if_neg (by decide), if_neg (by omega)] at h1
  have hr2' : r2 = false := by cases r2 with
    | false => rfl
    | true => rw [if_pos rfl] at h1; exact absurd h1 (by decide)
  subst hr2'
  rw [if_neg (by decide)] at h1
  have hr4' : r4 = false := by cases r4 with
    | false => rfl
    | true => rw [if_pos rfl] at h1; exact absurd h1 (by decide)
  subst hr4'
  have tok : True := trivial
  clear hS hF hB hr1 hr2 hr4 hl hl2 h1 hl0 hl6 hl8 hsp hfl hr hnl
  go_enter Tryd.func45, Tryd.ntmps45
  go_wp2_with (first
    | (go_at_call 66; refine (W1.out _).mono ?_; rintro e w' ⟨rfl, rfl⟩)
    | (go_at_call 88; have q := tok; refine (L1.out _ B0.out).mono ?_; rintro e w0 ⟨rfl, hb1⟩; have HB0 := Lib.hid hb1; clear hb1 q tok)
    | (go_at_call 88; refine (L2.out _ HB0.out).mono ?_; rintro e w1 ⟨rfl, hb2⟩; have HB1 := Lib.hid hb2; clear hb2))
  have hz1 : w.heap.size ≤ w1.heap.size := HB1.out.size
  have HP1 := Lib.hid (heap_alloc_new w1 (.cells #[.slice a2 n2 c2, .slice none 0 0, .int .i64 0] 147))
  have notyet : True := trivial
  go_region_law (first
    | (have q := notyet; clear q; go_simp; go_at_call 92; refine (CL.out _ (HB1.out.trans ((show Below w1.heap.size w1 _ by repeat (first | exact Below.refl _ _ | apply Below.drew | refine Below.alloc ?_ (by simp) _)).mono HB1.out.size))).mono ?_; rintro e w5 ⟨g5, cap5, rfl, hO, hb⟩; have hbw := HB1.out.trans (((show Below w1.heap.size w1 _ by repeat (first | exact Below.refl _ _ | apply Below.drew | refine Below.alloc ?_ (by simp) _)).mono HB1.out.size).trans (hb.mono (Nat.le_trans HB1.out.size (show Below w1.heap.size w1 _ by repeat (first | exact Below.refl _ _ | apply Below.drew | refine Below.alloc ?_ (by simp) _)).size))); have P5 := Lib.hid ((hb.block w1.heap.size (by simp <;> omega)).trans (((show Below (w1.heap.size + 1) (w1.alloc (.cells #[.slice a2 n2 c2, .slice none 0 0, .int .i64 0] 147)) _ by repeat (first | exact Below.refl _ _ | apply Below.drew | refine Below.alloc ?_ (by simp) _)).block w1.heap.size (by omega)).trans HP1.out)); obtain ⟨sg1, sg2⟩ := hO.own rfl; (first | (have isB : Hid (w5.heap[w1.heap.size + 1]? = some (.cells (zerI n2) 3 (0, 0)) ∧ w1.heap.size + 1 < g5) := ⟨(hb.block (w1.heap.size + 1) (show w1.heap.size + 1 < ((w1.alloc _).alloc _).heap.size by simp)).trans (by have h := heap_alloc_new (w1.alloc (.cells #[.slice a2 n2 c2, .slice none 0 0, .int .i64 0] 147)) (.cells (zerI n2) 3); rw [World.size_alloc] at h; exact h), by simp at sg1; omega⟩) | skip); replace sg2 : g5 < w5.heap.size := sg2; clear sg1; have O5 := Lib.hid (hO.up (Nat.le_trans HB1.out.size (show Below w1.heap.size w1 _ by repeat (first | exact Below.refl _ _ | apply Below.drew | refine Below.alloc ?_ (by simp) _)).size)); have B5 := Lib.hid hbw; clear hO hb hbw notyet)
    | (have q := isB; clear q; go_simp; go_at_call 91; refine (LK.out g5 0 n cap5 (w1.heap.size + 1) 0 _ w.heap.size w1.heap.size (plm_mk P5.out O5.out isB.out.1 (fun g hg => by have hgg : g5 = g := (by simpa [Value.ownBlock] using hg); have := isB.out.2; omega) (by omega) hz1 (by omega)) B5.out.size (FS.out _ B5.out) rfl rfl (by have := HL.out.2; omega) HSP.out HL.out.1 hn6 (by omega) (by omega)).mono ?_; rintro e w6 ⟨rfl, hpm, hb6⟩; have B6 := Lib.hid (B5.out.trans hb6); rw [LE.out] at hpm; have P6 := Lib.hid hpm; clear hpm hb6)
    | (go_simp; go_at_call 91; refine (LK.out g5 0 n cap5 w5.heap.size 0 _ w.heap.size w1.heap.size (plm_mk ((((Below.refl w5.heap.size w5).alloc (Nat.le_refl _) _).block _ (by have := (Array.getElem?_eq_some_iff.1 P5.out).1; exact this)).trans P5.out) (O5.out.below ((Below.refl w5.heap.size w5).alloc (Nat.le_refl _) _)) (heap_alloc_new w5 _) (fun g hg => by have hgg : g5 = g := (by simpa [Value.ownBlock] using hg); omega) B5.out.size hz1 (by omega)) (by rw [World.size_alloc]; have := B5.out.size; omega) (FS.out _ (B5.out.alloc B5.out.size _)) rfl rfl (by have := HL.out.2; omega) HSP.out HL.out.1 hn6 (by omega) (by omega)).mono ?_; rintro e w6 ⟨rfl, hpm, hb6⟩; have B6 := Lib.hid ((B5.out.alloc B5.out.size _).trans hb6); rw [LE.out] at hpm; have P6 := Lib.hid hpm; clear hpm hb6))
  all_goals
    obtain ⟨bv, ch, hh, hbv⟩ := P6.out.best
    obtain ⟨p0, p1, p2, _, _⟩ := cell_blk3 hh
    clear hh
    cases r with
    | none =>
      have hbv2 : bv = .slice none 0 0 := hbv
      subst hbv2
      clear hbv
      go_wp2_with (fail)
      go_ret3
      exact ⟨rfl, B6.out⟩
    | some l =>
      obtain ⟨e1, e2⟩ := HNL.out l rfl
      obtain ⟨e3, g, cap, e4, hrow, _, _⟩ := (show BestV _ _ _ _ _ _ (some (l, chg l)) from hbv)
      subst e4
      rw [e1] at hrow
      have R6 := Lib.hid hrow
      rw [e2] at e3
      subst e3
      clear hbv hrow
      go_wp2_with (fail)
      go_region_law (fail)
      all_goals
        go_wp2_with (fail)
        go_ret3
        first | exact ⟨_, _, rfl, R6.out, B6.out.drew⟩ | exact ⟨_, _, rfl, R6.out, B6.out⟩
end Go.Proofs.YtchnhjffpldpiaaDoor
