/- sameInts; Plan on both sides; swashplatelaw09.PartsPlans answers true. -/
import Derived.Test.YtchnhjffpldpiaaDoorPPln3
import Derived.Test.YtchnhjffpldpiaaDoorLCyc
namespace Go.Proofs.YtchnhjffpldpiaaDoor
open Go Go.RowKit

set_option maxRecDepth 100000 in
set_option maxHeartbeats 1000000 in
theorem sameInts_any (xs ys : List Int) (a a2 : Option Addr) (n c n2 c2 : Nat) (w : World) (B : Nat) (hB : B ≤ w.heap.size) (h1 : Rd encInt 1 w B a n xs) (h2 : Rd encInt 1 w B a2 n2 ys) :
    Calls Tryd.prog 40 #[.slice a n c, .slice a2 n2 c2] w fun e w' => e = .returned (.bool (decide (xs = ys))) ∧ Below w.heap.size w w' := by
  have e1 := h1.len
  have e2 := h2.len
  have m1 := h1.big
  have m2 := h2.big
  by_cases hl : n = n2
  · subst hl
    have HE := Lib.hid (And.intro e1 e2)
    have R1 := Lib.hid h1
    have R2 := Lib.hid h2
    have HB := Lib.hid hB
    clear h1 h2 e1 e2 hB m2
    go_enter Tryd.func40, Tryd.ntmps40
    go_wp2
    go_loopg [5] n (fun gg s5 wr => ∃ k : Nat, k ≤ n ∧ n - k ≤ gg ∧ s5 = .int .i64 k ∧ Aside (Below w.heap.size w wr) ∧ Aside (∀ j, j < k → xs[j]! = ys[j]!))
    case atStart => exact ⟨0, Nat.zero_le _, by omega, rfl, Below.refl _ _, fun j hj => by omega⟩
    case round =>
      obtain ⟨k, hk, hg, rfl, BW, EQ⟩ := hrel
      by_cases hlt : k < n
      · have hltz : (k : Int) < (n : Int) := by omega
        have hk0 : (0 : Int) ≤ (k : Int) := by omega
        obtain ⟨b, off, rfl, hb, x1⟩ := rd_one R1.out k hlt
        obtain ⟨b', off', rfl, hb', y1⟩ := rd_one R2.out k hlt
        replace x1 := ((BW.out.mono HB.out).cell (p := ⟨b, off + k, none⟩) hb).trans x1
        replace y1 := ((BW.out.mono HB.out).cell (p := ⟨b', off' + k, none⟩) hb').trans y1
        obtain ⟨x, hx⟩ : ∃ x, xs[k]! = x := ⟨_, rfl⟩
        obtain ⟨y, hy⟩ : ∃ y, ys[k]! = y := ⟨_, rfl⟩
        rw [hx] at x1
        rw [hy] at y1
        have HXY := Lib.hid (And.intro hx hy)
        clear hx hy
        by_cases he : x = y
        · subst he
          go_wp2
          go_quiet (fail)
          refine world_gen (w := wr) (Q := fun W => Exit.then _ _ _ _ W) (fun W bW => ?_) _
          have BW2 := Lib.hid bW
          clear bW x1 y1
          go_wp2
          go_roundg (n - (k + 1))
          case measure => omega
          case rel => exact ⟨k + 1, by omega, by omega, by go_num, BW.out.trans (BW2.out.mono BW.out.size), fun j hj => by
            by_cases e : j = k
            · subst e; exact HXY.out.1.trans HXY.out.2.symm
            · exact EQ.out j (by omega)⟩
        · have hf : (x == y) = false := by simpa using he
          have HN := Lib.hid he
          clear he
          go_wp2
          go_quiet (fail)
          refine world_gen (w := wr) (Q := fun W => Exit.then _ _ _ _ W) (fun W bW => ?_) _
          have BW2 := Lib.hid bW
          clear bW x1 y1
          go_wp2
          go_ret
          refine ⟨ret_bool ?_, BW.out.trans (BW2.out.mono BW.out.size)⟩
          refine (decide_eq_false ?_).symm
          intro e
          rw [e] at HXY
          exact HN.out (HXY.out.1.symm.trans HXY.out.2)
      · have hltz : ¬ (k : Int) < (n : Int) := by omega
        have : k = n := by omega
        subst this
        go_wp2
        go_ret
        refine ⟨ret_bool ?_, BW.out⟩
        refine (decide_eq_true ?_).symm
        exact take_ext (by rw [← HE.out.1, ← HE.out.2]) (fun j hj => EQ.out j (by rw [HE.out.1]; exact hj))
  · have hne : ((n : Int) == (n2 : Int)) = false := by simp; omega
    have hd : decide (xs = ys) = false := decide_eq_false (fun e => hl (by rw [e1, e2, e]))
    rw [hd]
    clear h1 h2 e1 e2 hd
    go_enter Tryd.func40, Tryd.ntmps40
    go_wp2
    go_ret
    exact ⟨rfl, Below.refl _ _⟩
theorem sameInts_q (xs ys : List Int) (a a2 : Option Addr) (n c n2 c2 : Nat) (w : World) (B : Nat) (hB : B ≤ w.heap.size) (h1 : Rd encInt 1 w B a n xs) (h2 : Rd encInt 1 w B a2 n2 ys) (b : Bool) (hb : decide (xs = ys) = b) :
    Calls Tryd.prog 40 #[.slice a n c, .slice a2 n2 c2] w fun e w' => e = .returned (.bool b) ∧ Below w.heap.size w w' := by
  subst hb; exact sameInts_any xs ys a a2 n c n2 c2 w B hB h1 h2

variable {spares flights : List Int} {a a2 : Option Addr} {n c n2 c2 : Nat} {w : World} {B : Nat}

theorem plansI_len {l : List Int} (h : plansR flights [] spares = some l) : l.length = flights.length := by
  have := plansR_len h
  simpa using this
theorem Plan_any (hB : B ≤ w.heap.size) (hS : Rd encInt 1 w B a n spares) (hF : Rd encInt 1 w B a2 n2 flights) :
    Calls Tryd.prog 45 #[.slice a n c, .slice a2 n2 c2] w (PlanPost (planA spares flights) w) := by
  rcases planE_vals spares flights with h0 | h0
  · obtain ⟨r, hr⟩ : ∃ r, plansR flights [] spares = r := ⟨_, rfl⟩
    cases r with
    | none =>
      have hA : planA spares flights = ([], 0, 3) := by unfold planA; rw [if_pos h0, hr]
      refine (plan_ok hB hS hF h0 none hr 0 0 (fun l h => by cases h)).mono fun e w' h => ?_
      rw [hA]
      exact ⟨none, 0, h.1, rd_no, h.2⟩
    | some l =>
      have hA : planA spares flights = (l, chg l, 0) := by unfold planA; rw [if_pos h0, hr]
      have hl8 := (planE_ok h0).2.1
      have hll := plansI_len hr
      refine (plan_ok hB hS hF h0 (some l) hr l.length (chg l) (fun l h => by cases h; exact ⟨rfl, rfl⟩)).mono fun e w' h => ?_
      obtain ⟨ao, cap, h1, h2, h3⟩ := h
      rw [hA]
      refine ⟨ao, cap, h1, ?_, h3⟩
      rcases Nat.eq_zero_or_pos l.length with hz | hz
      · have : l = [] := List.length_eq_zero_iff.1 hz
        subst this
        exact rd_no
      · obtain ⟨a', c', e, hr⟩ := (OwnI.of_row h2 hz).rd (by omega)
        cases e
        exact hr
  · have hA : planA spares flights = ([], 0, 1) := by unfold planA; rw [if_neg (by omega)]
    refine (plan_err hB hS hF h0).mono fun e w' h => ?_
    rw [hA]
    exact ⟨none, 0, h.1, rd_no, h.2⟩

set_option maxRecDepth 100000 in
set_option maxHeartbeats 1000000 in
theorem plans_long (hG : Glb w w.heap.size) (hn : n ≤ 6) (hn2 : n2 ≤ 8) (hc : 4 < n ∨ (¬ 4 < n ∧ 6 < n2)) :
    Calls Tryd.prog 13 #[.slice a n c, .slice a2 n2 c2] w fun e w' => e = .returned (.bool true) ∧ Below w.heap.size w w' := by
  have WK := Lib.hid (works_in hG)
  have B0 := Lib.hid (Below.refl w.heap.size w)
  have c1 : (n : Int) ≤ 6 := by omega
  have c2' : (n2 : Int) ≤ 8 := by omega
  clear hG hn hn2
  rcases hc with hc | ⟨hc, hd⟩
  · have c3 : (4 : Int) < (n : Int) := by omega
    clear hc
    go_enter Tryd.func13, Tryd.ntmps13
    go_wp2_with (go_at_call 18; refine (WK.out _ B0.out).mono ?_; rintro e w6 ⟨rfl, hb6⟩; have HB6 := Lib.hid hb6; clear hb6)
    go_ret
    exact ⟨rfl, HB6.out⟩
  · have c3 : ¬ (4 : Int) < (n : Int) := by omega
    have c4 : (6 : Int) < (n2 : Int) := by omega
    clear hc hd
    go_enter Tryd.func13, Tryd.ntmps13
    go_wp2_with (go_at_call 18; refine (WK.out _ B0.out).mono ?_; rintro e w6 ⟨rfl, hb6⟩; have HB6 := Lib.hid hb6; clear hb6)
    go_ret
    exact ⟨rfl, HB6.out⟩

set_option maxRecDepth 100000 in
set_option maxHeartbeats 1000000 in
theorem plans_short (hS : Rd encInt 1 w w.heap.size a n spares) (hF : Rd encInt 1 w w.heap.size a2 n2 flights) (hG : Glb w w.heap.size) (hc : ¬ n ≤ 6 ∨ (n ≤ 6 ∧ ¬ n2 ≤ 8) ∨ (n ≤ 6 ∧ n2 ≤ 8 ∧ ¬ 4 < n ∧ ¬ 6 < n2)) :
    Calls Tryd.prog 13 #[.slice a n c, .slice a2 n2 c2] w fun e w' => e = .returned (.bool true) ∧ Below w.heap.size w w' := by
  have WK := Lib.hid (works_in hG)
  obtain ⟨⟨l, m, er⟩, hq⟩ : ∃ q, planA spares flights = q := ⟨_, rfl⟩
  obtain ⟨nl, hnl⟩ : ∃ nl, l.length = nl := ⟨_, rfl⟩
  have PP : Hid (∀ W, Below w.heap.size w W → Calls Tryd.prog 45 #[.slice a n c, .slice a2 n2 c2] W fun e w' => ∃ ao cap, e = .returned (.tuple #[.slice ao nl cap, .int .i64 m, .int .i64 er]) ∧ Rd encInt 1 w' w'.heap.size ao nl l ∧ Below w.heap.size w w') := fun W hW => by
    refine (Plan_any (c := c) (c2 := c2) (Nat.le_refl _) ((hS.below hW).up hW.size) ((hF.below hW).up hW.size)).mono fun e w' h => ?_
    rw [hq] at h
    obtain ⟨ao, cap, h1, h2, h3⟩ := h
    exact ⟨ao, cap, by rw [h1, hnl], by rw [← hnl]; exact h2, hW.trans (h3.mono hW.size)⟩
  have RP : Hid (∀ W, Below w.heap.size w W → Calls Tryd.prog 46 #[.slice a n c, .slice a2 n2 c2] W fun e w' => ∃ ao cap, e = .returned (.tuple #[.slice ao nl cap, .int .i64 m, .int .i64 er]) ∧ Rd encInt 1 w' w'.heap.size ao nl l ∧ Below W.heap.size W w' ∧ Below w.heap.size w w') := fun W hW => by
    refine (refPlan_any (c := c) (c2 := c2) (Nat.le_refl _) ((hS.below hW).up hW.size) ((hF.below hW).up hW.size)).mono fun e w' h => ?_
    rw [hq] at h
    obtain ⟨ao, cap, h1, h2, h3⟩ := h
    exact ⟨ao, cap, by rw [h1, hnl], by rw [← hnl]; exact h2, h3, hW.trans (h3.mono hW.size)⟩
  have B0 := Lib.hid (Below.refl w.heap.size w)
  clear hS hF hG hq hnl
  rcases hc with hc | ⟨hc1, hc2⟩ | ⟨hc1, hc2, hc3, hc4⟩
  · have c1 : ¬ (n : Int) ≤ 6 := by omega
    clear hc
    go_enter Tryd.func13, Tryd.ntmps13
    go_wp2_with (first
      | (go_at_call 45; refine (PP.out _ B0.out).mono ?_; rintro e w1 ⟨xa, xc, rfl, hr1, hb1⟩; have HR1 := Lib.hid hr1; have HB1 := Lib.hid hb1; clear hr1 hb1)
      | (go_at_call 46; refine (RP.out _ HB1.out).mono ?_; rintro e w2 ⟨ya, yc, rfl, hr2, hb2, hb3⟩; have HR2 := Lib.hid hr2; have HR3 := Lib.hid ((HR1.out.below hb2).up hb2.size); have HB2 := Lib.hid hb3; clear hr2 hb2 hb3)
      | (go_at_call 40; refine (sameInts_q l l _ _ _ _ _ _ _ _ (Nat.le_refl _) HR3.out HR2.out true (by simp)).mono ?_; rintro e w3 ⟨rfl, hb3⟩; have HB3 := Lib.hid (HB2.out.trans (hb3.mono HB2.out.size)); clear hb3)
      | (go_at_call 18; refine (WK.out _ HB3.out).mono ?_; rintro e w6 ⟨rfl, hb6⟩; have HB6 := Lib.hid hb6; clear hb6))
    go_ret
    exact ⟨rfl, HB6.out⟩
  · have c1 : (n : Int) ≤ 6 := by omega
    have c2' : ¬ (n2 : Int) ≤ 8 := by omega
    clear hc1 hc2
    go_enter Tryd.func13, Tryd.ntmps13
    go_wp2_with (first
      | (go_at_call 45; refine (PP.out _ B0.out).mono ?_; rintro e w1 ⟨xa, xc, rfl, hr1, hb1⟩; have HR1 := Lib.hid hr1; have HB1 := Lib.hid hb1; clear hr1 hb1)
      | (go_at_call 46; refine (RP.out _ HB1.out).mono ?_; rintro e w2 ⟨ya, yc, rfl, hr2, hb2, hb3⟩; have HR2 := Lib.hid hr2; have HR3 := Lib.hid ((HR1.out.below hb2).up hb2.size); have HB2 := Lib.hid hb3; clear hr2 hb2 hb3)
      | (go_at_call 40; refine (sameInts_q l l _ _ _ _ _ _ _ _ (Nat.le_refl _) HR3.out HR2.out true (by simp)).mono ?_; rintro e w3 ⟨rfl, hb3⟩; have HB3 := Lib.hid (HB2.out.trans (hb3.mono HB2.out.size)); clear hb3)
      | (go_at_call 18; refine (WK.out _ HB3.out).mono ?_; rintro e w6 ⟨rfl, hb6⟩; have HB6 := Lib.hid hb6; clear hb6))
    go_ret
    exact ⟨rfl, HB6.out⟩
  · have c1 : (n : Int) ≤ 6 := by omega
    have c2' : (n2 : Int) ≤ 8 := by omega
    have c3 : ¬ (4 : Int) < (n : Int) := by omega
    have c4 : ¬ (6 : Int) < (n2 : Int) := by omega
    clear hc1 hc2 hc3 hc4
    go_enter Tryd.func13, Tryd.ntmps13
    go_wp2_with (first
      | (go_at_call 45; refine (PP.out _ B0.out).mono ?_; rintro e w1 ⟨xa, xc, rfl, hr1, hb1⟩; have HR1 := Lib.hid hr1; have HB1 := Lib.hid hb1; clear hr1 hb1)
      | (go_at_call 46; refine (RP.out _ HB1.out).mono ?_; rintro e w2 ⟨ya, yc, rfl, hr2, hb2, hb3⟩; have HR2 := Lib.hid hr2; have HR3 := Lib.hid ((HR1.out.below hb2).up hb2.size); have HB2 := Lib.hid hb3; clear hr2 hb2 hb3)
      | (go_at_call 40; refine (sameInts_q l l _ _ _ _ _ _ _ _ (Nat.le_refl _) HR3.out HR2.out true (by simp)).mono ?_; rintro e w3 ⟨rfl, hb3⟩; have HB3 := Lib.hid (HB2.out.trans (hb3.mono HB2.out.size)); clear hb3)
      | (go_at_call 18; refine (WK.out _ HB3.out).mono ?_; rintro e w6 ⟨rfl, hb6⟩; have HB6 := Lib.hid hb6; clear hb6))
    go_ret
    exact ⟨rfl, HB6.out⟩

theorem plans_law (hS : Rd encInt 1 w w.heap.size a n spares) (hF : Rd encInt 1 w w.heap.size a2 n2 flights) (hG : Glb w w.heap.size) :
    Calls Tryd.prog 13 #[.slice a n c, .slice a2 n2 c2] w fun e w' => e = .returned (.bool true) ∧ Below w.heap.size w w' := by
  by_cases h : n ≤ 6 ∧ n2 ≤ 8 ∧ (4 < n ∨ (¬ 4 < n ∧ 6 < n2))
  · exact plans_long hG h.1 h.2.1 h.2.2
  · exact plans_short hS hF hG (by omega)
end Go.Proofs.YtchnhjffpldpiaaDoor
