/- swashplatelaw09.PartsCycles answers true. -/
import Derived.Test.YtchnhjffpldpiaaDoorPDam3
import Derived.Test.YtchnhjffpldpiaaDoorRefD2
import Derived.Test.YtchnhjffpldpiaaDoorPC
namespace Go.Proofs.YtchnhjffpldpiaaDoor
open Go.RowKit

variable {zs : List Int} {steps : List (Int × Int)} {a a2 : Option Addr} {n c n2 c2 : Nat} {w : World} {B : Nat}

theorem pdam_any (hB : B ≤ w.heap.size) (hR : Rd encInt 1 w B a n zs) (hS : Rd encPair 2 w B a2 n2 steps) (d er : Int) (hd : damF zs steps = (d, er)) :
    Calls Tryd.prog 43 #[.slice a n c, .slice a2 n2 c2] w fun e w' => e = .returned (.tuple #[.int .i64 d, .int .i64 er]) ∧ Below w.heap.size w w' := by
  by_cases he : seriesE zs = 0
  · rw [damF_ok he] at hd
    by_cases h8 : 8 < n2
    · rw [damR_long (by rw [← hS.len]; exact h8), Prod.mk.injEq] at hd
      rw [← hd.1, ← hd.2]
      exact dam_long hB hR he h8
    · by_cases hs : stepsE steps = 0
      · rw [damR_ok hs, Prod.mk.injEq] at hd
        rw [← hd.1, ← hd.2]
        exact dam_ok hB hR hS he hs
      · have hb : (List.range steps.length).any (badStep steps) = true := by
          unfold stepsE at hs
          rw [if_neg (by rw [← hS.len]; exact h8)] at hs
          by_cases e : (List.range steps.length).any (badStep steps) = true
          · exact e
          · rw [if_neg e] at hs; exact absurd rfl hs
        obtain ⟨i, hi, h1, h2⟩ := first_bad hb
        rw [damR_bad hi h1, Prod.mk.injEq] at hd
        rw [← hd.1, ← hd.2]
        exact dam_bad hB hR hS he (by omega) i (by rw [hS.len]; exact hi) h1 h2
  · rw [damF_err he, Prod.mk.injEq] at hd
    rw [← hd.1]
    exact dam_err hB hR er hd.2 (by rw [← hd.2]; exact he)
theorem rdam_any (hB : B ≤ w.heap.size) (hR : Rd encInt 1 w B a n zs) (hS : Rd encPair 2 w B a2 n2 steps) (d er : Int) (hd : damF zs steps = (d, er)) :
    Calls Tryd.prog 44 #[.slice a n c, .slice a2 n2 c2] w fun e w' => e = .returned (.tuple #[.int .i64 d, .int .i64 er]) ∧ Below w.heap.size w w' := by
  by_cases he : seriesE zs = 0
  · rw [damF_ok he] at hd
    by_cases h8 : 8 < n2
    · rw [damR_long (by rw [← hS.len]; exact h8), Prod.mk.injEq] at hd
      rw [← hd.1, ← hd.2]
      exact refDamage_long zs a n c a2 n2 c2 w B hB hR he h8
    · exact refDamage_go zs steps a n c a2 n2 c2 w B hB hR hS he (by omega) d er hd
  · rw [damF_err he, Prod.mk.injEq] at hd
    rw [← hd.1]
    exact (refDamage_err zs a n c a2 n2 c2 w B hR er hd.2 (by rw [← hd.2]; exact he)).mono fun e w' h => ⟨h.1, by rw [h.2]; exact Below.refl _ _⟩

/-- The cycles, if the series is one. -/
def cycR (zs : List Int) : List (Int × Int) := if seriesE zs = 0 then cycP zs else []
theorem rd_none {α : Type} [Inhabited α] {enc : α → List Value} {k : Nat} {w : World} {B : Nat} {a : Option Addr} : Rd enc k w B a 0 [] := ⟨rfl, by omega, 0, 0, fun h => by omega, fun j hj => by omega⟩
theorem pcyc_any (hB : B ≤ w.heap.size) (hR : Rd encInt 1 w B a n zs) (cs : List (Int × Int)) (hcs : cycR zs = cs) (nc : Nat) (hnc : cs.length = nc) (er : Int) (he : seriesE zs = er) :
    Calls Tryd.prog 19 #[.slice a n c] w fun e w' => ∃ a' c', e = .returned (.tuple #[.slice a' nc c', .int .i64 er]) ∧ Rd encPair 2 w' w'.heap.size a' nc cs ∧ Below w.heap.size w w' := by
  unfold cycR at hcs
  by_cases h : seriesE zs = 0
  · rw [if_pos h] at hcs
    obtain rfl : er = 0 := by rw [← he, h]
    exact Cycles_any zs a n c w B hB hR cs hcs nc hnc h
  · rw [if_neg h] at hcs
    subst hcs
    subst hnc
    exact (cycles_err zs a n c w B hB hR er he (by rw [← he]; exact h)).mono fun e w' hh => ⟨none, 0, hh.1, rd_none, hh.2⟩
theorem rcyc_any (hB : B ≤ w.heap.size) (hR : Rd encInt 1 w B a n zs) (cs : List (Int × Int)) (hcs : cycR zs = cs) (nc : Nat) (hnc : cs.length = nc) (er : Int) (he : seriesE zs = er) :
    Calls Tryd.prog 42 #[.slice a n c] w fun e w' => ∃ a' c', e = .returned (.tuple #[.slice a' nc c', .int .i64 er]) ∧ Rd encPair 2 w' w'.heap.size a' nc cs ∧ Below w.heap.size w w' := by
  unfold cycR at hcs
  by_cases h : seriesE zs = 0
  · rw [if_pos h] at hcs
    obtain rfl : er = 0 := by rw [← he, h]
    exact refCycles_q zs a n c w B hB hR cs hcs nc hnc h
  · rw [if_neg h] at hcs
    subst hcs
    subst hnc
    exact (refCycles_err zs a n c w B hR er he (by rw [← he]; exact h)).mono fun e w' hh => ⟨none, 0, hh.1, rd_none, by rw [hh.2]; exact Below.refl _ _⟩

set_option maxRecDepth 100000 in
set_option maxHeartbeats 1000000 in
theorem cycles_law (hR : Rd encInt 1 w w.heap.size a n zs) (hS : Rd encPair 2 w w.heap.size a2 n2 steps) (hG : Glb w w.heap.size) :
    Calls Tryd.prog 11 #[.slice a n c, .slice a2 n2 c2] w fun e w' => e = .returned (.bool true) ∧ Below w.heap.size w w' := by
  have WK := Lib.hid (works_in hG)
  obtain ⟨er, he⟩ : ∃ er, seriesE zs = er := ⟨_, rfl⟩
  obtain ⟨cs, hcs⟩ : ∃ cs, cycR zs = cs := ⟨_, rfl⟩
  obtain ⟨nc, hnc⟩ : ∃ nc, cs.length = nc := ⟨_, rfl⟩
  obtain ⟨⟨d, er2⟩, hd⟩ : ∃ p, damF zs steps = p := ⟨_, rfl⟩
  have PCY : Hid (∀ W, Below w.heap.size w W → Calls Tryd.prog 19 #[.slice a n c] W fun e w' => ∃ a' c', e = .returned (.tuple #[.slice a' nc c', .int .i64 er]) ∧ Rd encPair 2 w' w'.heap.size a' nc cs ∧ Below w.heap.size w w') := fun W hW =>
    (pcyc_any (Nat.le_refl _) ((hR.below hW).up hW.size) cs hcs nc hnc er he).mono fun e w' ⟨a', c', h1, h2, h3⟩ => ⟨a', c', h1, h2, hW.trans (h3.mono hW.size)⟩
  have RCY : Hid (∀ W, Below w.heap.size w W → Calls Tryd.prog 42 #[.slice a n c] W fun e w' => ∃ a' c', e = .returned (.tuple #[.slice a' nc c', .int .i64 er]) ∧ Rd encPair 2 w' w'.heap.size a' nc cs ∧ Below W.heap.size W w' ∧ Below w.heap.size w w') := fun W hW =>
    (rcyc_any (Nat.le_refl _) ((hR.below hW).up hW.size) cs hcs nc hnc er he).mono fun e w' ⟨a', c', h1, h2, h3⟩ => ⟨a', c', h1, h2, h3, hW.trans (h3.mono hW.size)⟩
  have PDA : Hid (∀ W, Below w.heap.size w W → Calls Tryd.prog 43 #[.slice a n c, .slice a2 n2 c2] W fun e w' => e = .returned (.tuple #[.int .i64 d, .int .i64 er2]) ∧ Below w.heap.size w w') := fun W hW =>
    (pdam_any (Nat.le_refl _) ((hR.below hW).up hW.size) ((hS.below hW).up hW.size) d er2 hd).mono fun e w' ⟨h1, h3⟩ => ⟨h1, hW.trans (h3.mono hW.size)⟩
  have RDA : Hid (∀ W, Below w.heap.size w W → Calls Tryd.prog 44 #[.slice a n c, .slice a2 n2 c2] W fun e w' => e = .returned (.tuple #[.int .i64 d, .int .i64 er2]) ∧ Below w.heap.size w w') := fun W hW =>
    (rdam_any (Nat.le_refl _) ((hR.below hW).up hW.size) ((hS.below hW).up hW.size) d er2 hd).mono fun e w' ⟨h1, h3⟩ => ⟨h1, hW.trans (h3.mono hW.size)⟩
  have B0 := Lib.hid (Below.refl w.heap.size w)
  clear hR hS hG he hcs hnc hd
  go_enter Tryd.func11, Tryd.ntmps11
  go_wp2_with (first
    | (go_at_call 19; refine (PCY.out _ B0.out).mono ?_; rintro e w1 ⟨xa, xc, rfl, hr1, hb1⟩; have HR1 := Lib.hid hr1; have HB1 := Lib.hid hb1; clear hr1 hb1)
    | (go_at_call 42; refine (RCY.out _ HB1.out).mono ?_; rintro e w2 ⟨ya, yc, rfl, hr2, hb2, hb3⟩; have HR2 := Lib.hid hr2; have HR3 := Lib.hid ((HR1.out.below hb2).up hb2.size); have HB2 := Lib.hid hb3; clear hr2 hb2 hb3))
  go_wp2_with (first
    | (go_at_call 21; refine (samePairs_q cs cs _ _ _ _ _ _ _ _ (Nat.le_refl _) HR3.out HR2.out true (by simp)).mono ?_; rintro e w3 ⟨rfl, hb3⟩; have HB3 := Lib.hid (HB2.out.trans (hb3.mono HB2.out.size)); clear hb3)
    | (go_at_call 43; refine (PDA.out _ HB3.out).mono ?_; rintro e w4 ⟨rfl, hb4⟩; have HB4 := Lib.hid hb4; clear hb4)
    | (go_at_call 44; refine (RDA.out _ HB4.out).mono ?_; rintro e w5 ⟨rfl, hb5⟩; have HB5 := Lib.hid hb5; clear hb5)
    | (go_at_call 18; refine (WK.out _ HB5.out).mono ?_; rintro e w6 ⟨rfl, hb6⟩; have HB6 := Lib.hid hb6; clear hb6))
  go_ret
  exact ⟨rfl, HB6.out⟩
end Go.Proofs.YtchnhjffpldpiaaDoor
