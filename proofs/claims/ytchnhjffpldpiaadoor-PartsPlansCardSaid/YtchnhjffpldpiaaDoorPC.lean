/- swashplatelaw09.PartsCounted answers true. -/
import Derived.Test.YtchnhjffpldpiaaDoorMB
import Derived.Test.YtchnhjffpldpiaaDoorMF
import Derived.Test.YtchnhjffpldpiaaDoorRefW
import Derived.Deep.RegionLaw
namespace Go.Proofs.YtchnhjffpldpiaaDoor
open Go.RowKit

/-- works() answers true in each world behind w. -/
def WorksIn (w : World) : Prop := ∀ W, Below w.heap.size w W → Calls Tryd.prog 18 #[] W fun e w' => e = .returned (.bool true) ∧ Below w.heap.size w w'
theorem refTurning_len (zs : List Int) (a : Option Addr) (n c : Nat) (w : World) (B : Nat) (hB : B ≤ w.heap.size) (hR : Rd encInt 1 w B a n zs) (hn : n ≤ 300) (m : Nat) (hm : (turnP zs).length = m) :
    Calls Tryd.prog 20 #[.slice a n c] w fun e w' => ∃ ao cp, e = .returned (.slice ao m cp) ∧ Below w.heap.size w w' := by
  refine (refTurning_any zs a n c w B hB hR hn).mono ?_
  rintro e w' ⟨v, rfl, ho, hb⟩
  obtain ⟨ao, cp, rfl, _⟩ := ho.view
  exact ⟨ao, cp, by rw [hm], hb⟩
theorem works_in {w : World} (hG : Glb w w.heap.size) : WorksIn w := fun W hW =>
  (works_any W ((hG.below hW).up hW.size)).mono fun _ _ ⟨h1, h2⟩ => ⟨h1, hW.trans (h2.mono hW.size)⟩

set_option maxRecDepth 100000 in
set_option maxHeartbeats 1000000 in
theorem counted_long (a : Option Addr) (n c : Nat) (add_ at_ : Int) (w : World) (hn : 300 ≤ n) (hG : Glb w w.heap.size) :
    Calls Tryd.prog 3 #[.slice a n c, .agg #[.int .i64 add_, .int .i64 at_]] w fun e w' => e = .returned (.bool true) ∧ Below w.heap.size w w' := by
  have WK := Lib.hid (works_in hG)
  clear hG
  have hn' : (300 : Int) ≤ (n : Int) := by omega
  go_enter Tryd.func3, Tryd.ntmps3
  go_wp2_with (go_at_call 18; refine (WK.out _ ((Below.refl _ _).alloc (Nat.le_refl _) _)).mono ?_; rintro e w1 ⟨rfl, hb1⟩)
  go_ret
  exact ⟨rfl, hb1⟩

set_option maxRecDepth 100000 in
set_option maxHeartbeats 1000000 in
theorem counted_err (zs : List Int) (a : Option Addr) (n c : Nat) (add_ at_ : Int) (w : World) (B : Nat) (hB : B ≤ w.heap.size) (hR : Rd encInt 1 w B a n zs) (hn : n < 300) (hG : Glb w w.heap.size) (he : seriesE zs ≠ 0) :
    Calls Tryd.prog 3 #[.slice a n c, .agg #[.int .i64 add_, .int .i64 at_]] w fun e w' => e = .returned (.bool true) ∧ Below w.heap.size w w' := by
  have WK := Lib.hid (works_in hG)
  have hn' : ¬ (300 : Int) ≤ (n : Int) := by omega
  have CY := Lib.hid (fun (W : World) (hW : Below w.heap.size w W) => cycles_err zs a n c W B (Nat.le_trans hB hW.size) (hR.below (hW.mono hB)) _ rfl he)
  generalize seriesE zs = er at CY he
  have hf : (er == 0) = false := by simpa using he
  have hf2 : (er != 0) = true := by simpa using he
  clear hG hB hR he
  go_enter Tryd.func3, Tryd.ntmps3
  go_wp2_with (first
    | (go_at_call 19; refine (CY.out _ ((Below.refl _ _).alloc (Nat.le_refl _) _)).mono ?_; rintro e w1 ⟨rfl, hb1⟩; have HB1 := Lib.hid (((Below.refl w.heap.size w).alloc (Nat.le_refl _) _).trans (hb1.mono (by rw [World.size_alloc]; omega))); clear hb1)
    | (go_at_call 18; refine (WK.out _ HB1.out).mono ?_; rintro e w2 ⟨rfl, hb2⟩))
  go_ret
  exact ⟨rfl, hb2⟩

set_option maxRecDepth 100000 in
set_option maxHeartbeats 4000000 in
theorem counted_ok (zs : List Int) (a : Option Addr) (n c : Nat) (add_ at_ : Int) (w : World) (B : Nat) (hB : B ≤ w.heap.size) (hR : Rd encInt 1 w B a n zs) (hn : n < 300) (hG : Glb w w.heap.size) (he : seriesE zs = 0) (ha0 : -9223372036854775808 ≤ add_) (ha1 : add_ ≤ 9223372036854775807) :
    Calls Tryd.prog 3 #[.slice a n c, .agg #[.int .i64 add_, .int .i64 at_]] w fun e w' => e = .returned (.bool true) ∧ Below w.heap.size w w' := by
  have WK := Lib.hid (works_in hG)
  have hn' : ¬ (300 : Int) ≤ (n : Int) := by omega
  have HE := Lib.hid he
  have HRB := Lib.hid (And.intro hB hR)
  have HN := Lib.hid hR.len
  obtain ⟨cs, hcs⟩ : ∃ cs, cycP zs = cs := ⟨_, rfl⟩
  obtain ⟨nc, hnc⟩ : ∃ nc, cs.length = nc := ⟨_, rfl⟩
  obtain ⟨m, hm⟩ : ∃ m, (turnP zs).length = m := ⟨_, rfl⟩
  have hm300 : m ≤ 300 := by have := turnP_len zs; have := hR.len; omega
  have hcsl : nc ≤ n := by
    have := cycP_len zs
    have := hR.len
    rw [hcs, hnc] at *
    omega
  have CY := Lib.hid (fun (W : World) (hW : Below w.heap.size w W) => Cycles_any zs a n c W B (Nat.le_trans hB hW.size) (hR.below (hW.mono hB)) cs hcs nc hnc he)
  have CS := Lib.hid (And.intro hcs hnc)
  have HV := Lib.hid (And.intro (hcs ▸ (cyc_halves zs).2 : Halves cs) (show hsum cs = ((m - 1 : Nat) : Int) by rw [← hcs, ← hm]; exact (cyc_halves zs).1))
  have RT := Lib.hid (fun (W : World) (hW : Below w.heap.size w W) => refTurning_len zs a n c W B (Nat.le_trans hB hW.size) (hR.below (hW.mono hB)) (by omega) m hm)
  have HO := Lib.hid (And.intro ha0 ha1)
  clear hG hB hR he hcs hnc hm ha0 ha1
  go_enter Tryd.func3, Tryd.ntmps3
  go_wp2_with (first
    | (go_at_call 19; refine (CY.out _ ((Below.refl _ _).alloc (Nat.le_refl _) _)).mono ?_; rintro e w1 ⟨ca, cc, rfl, hr, hb1⟩; have HC := Lib.hid hr; have HB1 := Lib.hid (((Below.refl w.heap.size w).alloc (Nat.le_refl _) _).trans (hb1.mono (by rw [World.size_alloc]; omega))); have HX := Lib.hid ((hb1.block w.heap.size (by rw [World.size_alloc]; omega)).trans (heap_alloc_new w (.cells #[.int .i64 add_, .int .i64 at_] 24))); clear hb1 hr CY))
  go_loopg [7, 8, 9] nc (fun gg s7 s8 s9 wr => ∃ kk : Nat, kk ≤ nc ∧ nc - kk ≤ gg ∧ s7 = .int .i64 (hsum (cs.take kk)) ∧ s8 = .int .i64 (gre (cs.take kk)) ∧ s9 = .int .i64 kk ∧ w1 = wr)
  case atStart => exact ⟨0, Nat.zero_le _, by omega, rfl, rfl, rfl, rfl⟩
  case round =>
    obtain ⟨kk, hkk, hg, rfl, rfl, rfl, rfl⟩ := hrel
    by_cases hlt : kk < nc
    · have hltz : (kk : Int) < (nc : Int) := by omega
      have hk0 : (0 : Int) ≤ (kk : Int) := by omega
      obtain ⟨b, off, rfl, hb, x1, x2⟩ := rd_pair HC.out kk hlt
      have hlt' : kk < cs.length := by rw [CS.out.2]; exact hlt
      have HS := Lib.hid (And.intro (hsum_take cs kk hlt') (gre_take cs kk hlt'))
      obtain ⟨s0, s1⟩ := hsum_bound cs HV.out.1 kk (by omega)
      have hh := HV.out.1 _ (get_mem2 cs kk hlt')
      generalize hsum (cs.take kk) = H at HS s0 s1 ⊢
      generalize gre (cs.take kk) = G at HS ⊢
      obtain ⟨x, hx⟩ : ∃ x, cs[kk]! = x := ⟨_, rfl⟩
      rw [hx] at x1 x2 HS hh
      obtain ⟨xa, xb⟩ := x
      simp only at x1 x2 hh
      clear hx hlt'
      have hs3 : H ≤ 600 := by omega
      rcases hh with rfl | rfl
      all_goals
        go_wp2
        go_roundg (nc - (kk + 1))
        case measure => omega
        case rel => exact ⟨kk + 1, by omega, by omega, by rw [HS.out.1], by rw [HS.out.2], by go_num, rfl⟩
    · have hltz : ¬ (kk : Int) < (nc : Int) := by omega
      obtain rfl : nc = kk := by omega
      have e7 : hsum (cs.take nc) = max 0 ((m : Int) - 1) := by
        rw [← CS.out.2, List.take_length, HV.out.2]; omega
      have e8 : gre (cs.take nc) = gre cs := by rw [← CS.out.2, List.take_length]
      rw [e7, e8]
      obtain ⟨G, hG⟩ : ∃ G, gre cs = G := ⟨_, rfl⟩
      rw [hG]
      have HG := Lib.hid hG
      clear e7 e8 hG HV
      by_cases hn0 : n = 0
      · have hn1 : ((n : Int) == 0) = true := by simp [hn0]
        clear hn0
        go_wp2_with (first
          | (go_at_call 20; refine (RT.out _ HB1.out).mono ?_; rintro e w2 ⟨ao, cp, rfl, hb2⟩; have HB2 := Lib.hid (HB1.out.trans (hb2.mono HB1.out.size)); clear hb2)
          | (go_at_call 18; refine (WK.out _ HB2.out).mono ?_; rintro e w3 ⟨rfl, hb3⟩))
        go_ret
        exact ⟨rfl, hb3⟩
      · have hn1 : ((n : Int) == 0) = false := by simp [hn0]
        have hnp : 0 < n := by omega
        clear hn0
        obtain ⟨b, off, ha, hc⟩ := HRB.out.2.ex
        obtain ⟨rfl, hb⟩ := ha hnp
        clear ha
        go_wp2_with (first
          | (go_at_call 20; refine (RT.out _ HB1.out).mono ?_; rintro e w2 ⟨ao, cp, rfl, hb2⟩; have HB2 := Lib.hid (HB1.out.trans (hb2.mono HB1.out.size)); have HBa := Lib.hid hb2; clear hb2))
        have RD : Hid (∀ W, Below w.heap.size w W → ∀ j, j < n → W.cell? ⟨b, off + j, none⟩ = some (.int .i64 zs[j]!)) := fun W hW j hj => by
          have := hc j hj 0 _ rfl
          rw [Nat.mul_one, Nat.add_zero] at this
          exact (hW.cell (p := ⟨b, off + j, none⟩) (Nat.lt_of_lt_of_le hb HRB.out.1)).trans this
        have l0 := RD.out _ HB2.out 0 hnp
        rw [Nat.add_zero] at l0
        clear hc
        have LL := Lib.hid (And.intro (lowP_zero zs) (highP_zero zs))
        generalize zs[0]! = z0 at l0 LL
        go_quiet (fail)
        refine world_gen (w := w2) (Q := fun W => Exit.then _ _ _ _ W) (fun W bW => ?_) _
        have HBW := Lib.hid bW
        clear bW l0
        have BX : Hid (∀ W', Below w1.heap.size w1 W' → W'.cell? ⟨w.heap.size, 0, none⟩ = some (.int .i64 add_) ∧ W'.cell? ⟨w.heap.size, 1, none⟩ = some (.int .i64 at_)) := fun W' hW => by
          have h1 := (hW.block _ (Array.getElem?_eq_some_iff.1 HX.out).1).trans HX.out
          exact ⟨by simp [World.cell?, h1], by simp [World.cell?, h1]⟩
        have BB := Lib.hid (HB2.out.trans (HBW.out.mono HB2.out.size))
        have BC := Lib.hid (HBa.out.trans (HBW.out.mono HBa.out.size))
        obtain ⟨i0, hi, hz0, hz1, hz2⟩ := info_parts info_i
        have I0 := Lib.hid (And.intro hi (And.intro hz0 (And.intro hz1 hz2)))
        clear hi hz0 hz1 hz2 HX HBa HB2 HBW
        go_wp2
        go_loopg [10, 11, 13, 14, 15] n (fun gg s10 s11 s13 s14 s15 wr => ∃ kk : Nat, kk ≤ n ∧ n - kk ≤ gg ∧ s10 = .int .i64 (lowP zs kk) ∧ s11 = .int .i64 (highP zs kk) ∧ s15 = .int .i64 kk ∧ Aside (Below W.heap.size W wr) ∧ Aside (Two 3 wr W.heap.size s13 s14 ((zs.take kk).map fun a => -a) (dupUp zs at_ kk)))
        case atStart => exact ⟨0, Nat.zero_le _, by omega, by rw [LL.out.1], by rw [LL.out.2], rfl, Below.refl _ _, Two.nil⟩
        case round =>
          obtain ⟨kk, hkk, hg, rfl, rfl, rfl, BW, TW⟩ := hrel
          by_cases hlt : kk < n
          · have hltz : (kk : Int) < (n : Int) := by omega
            have hk0 : (0 : Int) ≤ (kk : Int) := by omega
            have hlt' : kk < zs.length := by have := HN.out; omega
            obtain ⟨x0, x1⟩ := (loads_of HE.out).2 _ (get_mem zs kk hlt')
            have LS := Lib.hid (And.intro (lowP_succ zs kk) (highP_succ zs kk))
            have MS := Lib.hid (map_take_snoc (fun a => -a) zs kk hlt')
            obtain ⟨x, hx⟩ : ∃ x, zs[kk]! = x := ⟨_, rfl⟩
            have y1 := RD.out _ (BB.out.trans (BW.out.mono BB.out.size)) kk hlt
            obtain ⟨bx1, bz1⟩ := BX.out _ (BC.out.trans (BW.out.mono BC.out.size))
            have HY := Lib.hid hx
            have D1 : Hid (¬ (kk : Int) = at_ → dupUp zs at_ (kk + 1) = dupUp zs at_ kk ++ [x]) := fun h => hx ▸ dup_no h
            have D2 : Hid ((kk : Int) = at_ → dupUp zs at_ (kk + 1) = dupUp zs at_ kk ++ [x] ++ [x]) := fun h => hx ▸ dup_yes h
            rw [hx] at x0 x1 y1 LS MS
            have hml : ((zs.take kk).map fun a => -a).length ≤ 300 := by rw [List.length_map, List.length_take]; omega
            have hdl : (dupUp zs at_ kk).length ≤ 301 := by have := dup_len' zs at_ kk; omega
            generalize ((zs.take kk).map fun a => -a) = ms at TW MS hml
            generalize dupUp zs at_ kk = ds at TW D1 D2 hdl
            clear hx hlt'
            by_cases hat : (kk : Int) = at_
            · have hat2 : ((kk : Int) == at_) = true := by simpa using hat
              have DN := Lib.hid (D2.out hat)
              clear hat D1 D2
              go_wp2_with (first
                | (at_builtin; obtain ⟨o1, o2, o3⟩ := app_pre BW.out (Nat.le_refl _) TW.out.fst (Below.refl _ _) (-x) 3; refine wpList_append_I _ rfl _ _ 22 rfl i0 Tryd.underlying22 I0.out.1 I0.out.2.1 I0.out.2.2.1 I0.out.2.2.2 u13 ms rfl W.heap.size o1 o2 _ _ (-x) rfl o3 (by omega) ?_; clear o1 o2 o3; intro g5 p5 cap5 w5 h1 h2 h3; have T5 := Lib.hid (Two.swap (TW.out.grow h2 h1 h3)); have BW5 := Lib.hid (TW.out.keep BW.out (Nat.le_refl _) (Nat.le_refl _) h2); have y5 := (RD.out _ (BB.out.trans (BW5.out.mono BB.out.size)) kk hlt).trans (congrArg (fun x => some (Value.int .i64 x)) HY.out); obtain ⟨bx5, bz5⟩ := BX.out _ (BC.out.trans (BW5.out.mono BC.out.size)); clear h1 h2 h3)
                | (at_builtin; obtain ⟨o1, o2, o3⟩ := app_pre BW5.out (Nat.le_refl _) T5.out.fst (Below.refl _ _) (x) 3; refine wpList_append_I _ rfl _ _ 22 rfl i0 Tryd.underlying22 I0.out.1 I0.out.2.1 I0.out.2.2.1 I0.out.2.2.2 u14 ds rfl W.heap.size o1 o2 _ _ (x) rfl o3 (by omega) ?_; clear o1 o2 o3; intro g6 p6 cap6 w6 h1 h2 h3; have T6 := Lib.hid (T5.out.grow h2 h1 h3); have BW6 := Lib.hid (T5.out.keep BW5.out (Nat.le_refl _) (Nat.le_refl _) h2); have y6 := (RD.out _ (BB.out.trans (BW6.out.mono BB.out.size)) kk hlt).trans (congrArg (fun x => some (Value.int .i64 x)) HY.out); obtain ⟨bx6, bz6⟩ := BX.out _ (BC.out.trans (BW6.out.mono BC.out.size)); clear h1 h2 h3)
                | (at_builtin; obtain ⟨o1, o2, o3⟩ := app_pre BW6.out (Nat.le_refl _) T6.out.fst (Below.refl _ _) (x) 3; refine wpList_append_I _ rfl _ _ 22 rfl i0 Tryd.underlying22 I0.out.1 I0.out.2.1 I0.out.2.2.1 I0.out.2.2.2 (.slice (some ⟨g6, p6, none⟩) (ds.length + 1) cap6) (ds ++ [x]) rfl W.heap.size o1 o2 _ _ (x) rfl o3 (by rw [List.length_append, List.length_singleton]; omega) ?_; clear o1 o2 o3; intro g7 p7 cap7 w7 h1 h2 h3; have T7 := Lib.hid (T6.out.grow h2 h1 h3); have BW7 := Lib.hid (T6.out.keep BW6.out (Nat.le_refl _) (Nat.le_refl _) h2); have y7 := (RD.out _ (BB.out.trans (BW7.out.mono BB.out.size)) kk hlt).trans (congrArg (fun x => some (Value.int .i64 x)) HY.out); obtain ⟨bx7, bz7⟩ := BX.out _ (BC.out.trans (BW7.out.mono BC.out.size)); clear h1 h2 h3))
              go_roundg (n - (kk + 1))
              case measure => omega
              case rel => exact ⟨kk + 1, by omega, by omega, by rw [LS.out.1], by rw [LS.out.2], by go_num, BW7.out, by rw [MS.out, DN.out]; have h := T7.out.swap; rw [List.length_append, List.length_singleton] at h; exact h⟩
            · have hat2 : ((kk : Int) == at_) = false := by simpa using hat
              have DN := Lib.hid (D1.out hat)
              clear hat D1 D2
              go_wp2_with (first
                | (at_builtin; obtain ⟨o1, o2, o3⟩ := app_pre BW.out (Nat.le_refl _) TW.out.fst (Below.refl _ _) (-x) 3; refine wpList_append_I _ rfl _ _ 22 rfl i0 Tryd.underlying22 I0.out.1 I0.out.2.1 I0.out.2.2.1 I0.out.2.2.2 u13 ms rfl W.heap.size o1 o2 _ _ (-x) rfl o3 (by omega) ?_; clear o1 o2 o3; intro g5 p5 cap5 w5 h1 h2 h3; have T5 := Lib.hid (Two.swap (TW.out.grow h2 h1 h3)); have BW5 := Lib.hid (TW.out.keep BW.out (Nat.le_refl _) (Nat.le_refl _) h2); have y5 := (RD.out _ (BB.out.trans (BW5.out.mono BB.out.size)) kk hlt).trans (congrArg (fun x => some (Value.int .i64 x)) HY.out); obtain ⟨bx5, bz5⟩ := BX.out _ (BC.out.trans (BW5.out.mono BC.out.size)); clear h1 h2 h3)
                | (at_builtin; obtain ⟨o1, o2, o3⟩ := app_pre BW5.out (Nat.le_refl _) T5.out.fst (Below.refl _ _) (x) 3; refine wpList_append_I _ rfl _ _ 22 rfl i0 Tryd.underlying22 I0.out.1 I0.out.2.1 I0.out.2.2.1 I0.out.2.2.2 u14 ds rfl W.heap.size o1 o2 _ _ (x) rfl o3 (by omega) ?_; clear o1 o2 o3; intro g6 p6 cap6 w6 h1 h2 h3; have T6 := Lib.hid (T5.out.grow h2 h1 h3); have BW6 := Lib.hid (T5.out.keep BW5.out (Nat.le_refl _) (Nat.le_refl _) h2); have y6 := (RD.out _ (BB.out.trans (BW6.out.mono BB.out.size)) kk hlt).trans (congrArg (fun x => some (Value.int .i64 x)) HY.out); obtain ⟨bx6, bz6⟩ := BX.out _ (BC.out.trans (BW6.out.mono BC.out.size)); clear h1 h2 h3))
              go_roundg (n - (kk + 1))
              case measure => omega
              case rel => exact ⟨kk + 1, by omega, by omega, by rw [LS.out.1], by rw [LS.out.2], by go_num, BW6.out, by rw [MS.out, DN.out]; exact T6.out.swap⟩
          · have hltz : ¬ (kk : Int) < (n : Int) := by omega
            obtain rfl : n = kk := by omega
            obtain ⟨L, hL⟩ : ∃ L, lowP zs n = L := ⟨_, rfl⟩
            obtain ⟨U, hU⟩ : ∃ U, highP zs n = U := ⟨_, rfl⟩
            rw [hL, hU]
            have hz0 : 0 < zs.length := by have := HN.out; omega
            obtain ⟨L0, L1⟩ := (loads_of HE.out).2 _ (hL ▸ low_mem zs hz0 n (by rw [HN.out]; exact Nat.le_refl _))
            obtain ⟨U0, U1⟩ := (loads_of HE.out).2 _ (hU ▸ high_mem zs hz0 n (by rw [HN.out]; exact Nat.le_refl _))
            obtain rfl : G = U - L := by
              have := gre_cyc zs hz0
              rw [CS.out.1, HG.out, ← HN.out, hL, hU] at this
              exact this
            have HLU := Lib.hid (And.intro hL hU)
            have F1 : ∃ a c, u13 = .slice a n c ∧ Rd encInt 1 wr wr.heap.size a n (zs.map fun a => -a) := by
              have h := TW.out.fst
              rw [HN.out, List.take_length] at h
              obtain ⟨a, c, e, hr⟩ := h.rd (by rw [List.length_map, ← HN.out]; omega)
              rw [List.length_map, ← HN.out] at e hr
              exact ⟨a, c, e, hr⟩
            obtain ⟨d, hd⟩ : ∃ d, (dupUp zs at_ n).length = d := ⟨_, rfl⟩
            have F2 : ∃ a c, u14 = .slice a d c ∧ Rd encInt 1 wr wr.heap.size a d (dupUp zs at_ n) := by
              obtain ⟨a, c, e, hr⟩ := TW.out.snd.rd (by have := dup_len' zs at_ n; omega)
              rw [hd] at e hr
              exact ⟨a, c, e, hr⟩
            obtain ⟨ma, mc, rfl, mr⟩ := F1
            obtain ⟨ta, tc, rfl, tr⟩ := F2
            have CM := Lib.hid (Cycles_any (zs.map fun a => -a) ma n mc wr wr.heap.size (Nat.le_refl _) mr cs (by rw [neg_cyc]; exact CS.out.1) nc CS.out.2 (minus_ok HE.out))
            have CT := Lib.hid (fun (W' : World) (hW : Below wr.heap.size wr W') => Cycles_any (dupUp zs at_ n) ta d tc W' wr.heap.size hW.size (tr.below hW) cs (by rw [HN.out, dup_cyc]; exact CS.out.1) nc CS.out.2 (by have := twice_ok HE.out (by rw [← HN.out]; exact hn) at_; rw [← HN.out] at this; exact this))
            have SP := Lib.hid (fun (W' : World) (a' : Option Addr) (c' : Nat) (h : Rd encPair 2 W' W'.heap.size a' nc cs) (h2 : Rd encPair 2 W' W'.heap.size ca nc cs) => samePairs_q cs cs a' ca nc c' nc cc W' W'.heap.size (Nat.le_refl _) h h2 true (by simp))
            have WR := Lib.hid (BB.out.trans (BW.out.mono BB.out.size))
            have WC := Lib.hid (BC.out.trans (BW.out.mono BC.out.size))
            clear hz0 hL hU hd mr tr TW BW LL
            rename World => w4
            by_cases h1 : add_ < -2000000
            · have g1 : decide (add_ < -2000000) = true := decide_eq_true h1
              go_wp2_with (first
                | (go_at_call 19; (with_reducible refine CM.out.mono ?_); rintro e w5 ⟨ba, bc, rfl, hr5, hb5⟩; have RB := Lib.hid hr5; have B5 := Lib.hid hb5; clear hr5 hb5 CM)
                | (go_at_call 19; (with_reducible refine (CT.out _ B5.out).mono ?_); rintro e w6 ⟨da, dc, rfl, hr6, hb6⟩; have RC := Lib.hid hr6; have R6 := Lib.hid ((RB.out.below hb6).up hb6.size); have B6 := Lib.hid (B5.out.trans (hb6.mono B5.out.size)); clear hr6 hb6 CT RB)
                | (go_at_call 21; (with_reducible refine (SP.out _ _ _ R6.out ((HC.out.below (WC.out.trans (B6.out.mono WC.out.size))).up (WC.out.trans (B6.out.mono WC.out.size)).size)).mono ?_); rintro e w7 ⟨rfl, hb7⟩; have R7 := Lib.hid ((RC.out.below hb7).up hb7.size); have B7 := Lib.hid (B6.out.trans (hb7.mono B6.out.size)); clear hb7 RC R6)
                | (go_at_call 21; (with_reducible refine (SP.out _ _ _ R7.out ((HC.out.below (WC.out.trans (B7.out.mono WC.out.size))).up (WC.out.trans (B7.out.mono WC.out.size)).size)).mono ?_); rintro e w8 ⟨rfl, hb8⟩; have B8 := Lib.hid (B7.out.trans (hb8.mono B7.out.size)); obtain ⟨bx8, bz8⟩ := BX.out _ (WC.out.trans (B8.out.mono WC.out.size)); clear hb8 R7)
                | (go_at_call 18; refine (WK.out _ (WR.out.trans (B8.out.mono WR.out.size))).mono ?_; rintro e w9 ⟨rfl, hb9⟩))
              go_ret
              exact ⟨rfl, hb9⟩
            · by_cases h2 : 2000000 < add_
              · have g1 : decide (add_ < -2000000) = false := decide_eq_false h1
                have g2 : decide (2000000 < add_) = true := decide_eq_true h2
                go_wp2_with (first
                  | (go_at_call 19; (with_reducible refine CM.out.mono ?_); rintro e w5 ⟨ba, bc, rfl, hr5, hb5⟩; have RB := Lib.hid hr5; have B5 := Lib.hid hb5; clear hr5 hb5 CM)
                  | (go_at_call 19; (with_reducible refine (CT.out _ B5.out).mono ?_); rintro e w6 ⟨da, dc, rfl, hr6, hb6⟩; have RC := Lib.hid hr6; have R6 := Lib.hid ((RB.out.below hb6).up hb6.size); have B6 := Lib.hid (B5.out.trans (hb6.mono B5.out.size)); clear hr6 hb6 CT RB)
                  | (go_at_call 21; (with_reducible refine (SP.out _ _ _ R6.out ((HC.out.below (WC.out.trans (B6.out.mono WC.out.size))).up (WC.out.trans (B6.out.mono WC.out.size)).size)).mono ?_); rintro e w7 ⟨rfl, hb7⟩; have R7 := Lib.hid ((RC.out.below hb7).up hb7.size); have B7 := Lib.hid (B6.out.trans (hb7.mono B6.out.size)); clear hb7 RC R6)
                  | (go_at_call 21; (with_reducible refine (SP.out _ _ _ R7.out ((HC.out.below (WC.out.trans (B7.out.mono WC.out.size))).up (WC.out.trans (B7.out.mono WC.out.size)).size)).mono ?_); rintro e w8 ⟨rfl, hb8⟩; have B8 := Lib.hid (B7.out.trans (hb8.mono B7.out.size)); obtain ⟨bx8, bz8⟩ := BX.out _ (WC.out.trans (B8.out.mono WC.out.size)); clear hb8 R7)
                  | (go_at_call 18; refine (WK.out _ (WR.out.trans (B8.out.mono WR.out.size))).mono ?_; rintro e w9 ⟨rfl, hb9⟩))
                go_ret
                exact ⟨rfl, hb9⟩
              · have a0 : -2000000 ≤ add_ := by omega
                have a1 : add_ ≤ 2000000 := by omega
                have g1 : decide (add_ < -2000000) = false := decide_eq_false h1
                have g2 : decide (2000000 < add_) = false := decide_eq_false h2
                by_cases h3 : L + add_ < -1000000
                · have g3 : decide (L + add_ < -1000000) = true := decide_eq_true h3
                  go_wp2_with (first
                    | (go_at_call 19; (with_reducible refine CM.out.mono ?_); rintro e w5 ⟨ba, bc, rfl, hr5, hb5⟩; have RB := Lib.hid hr5; have B5 := Lib.hid hb5; clear hr5 hb5 CM)
                    | (go_at_call 19; (with_reducible refine (CT.out _ B5.out).mono ?_); rintro e w6 ⟨da, dc, rfl, hr6, hb6⟩; have RC := Lib.hid hr6; have R6 := Lib.hid ((RB.out.below hb6).up hb6.size); have B6 := Lib.hid (B5.out.trans (hb6.mono B5.out.size)); clear hr6 hb6 CT RB)
                    | (go_at_call 21; (with_reducible refine (SP.out _ _ _ R6.out ((HC.out.below (WC.out.trans (B6.out.mono WC.out.size))).up (WC.out.trans (B6.out.mono WC.out.size)).size)).mono ?_); rintro e w7 ⟨rfl, hb7⟩; have R7 := Lib.hid ((RC.out.below hb7).up hb7.size); have B7 := Lib.hid (B6.out.trans (hb7.mono B6.out.size)); clear hb7 RC R6)
                    | (go_at_call 21; (with_reducible refine (SP.out _ _ _ R7.out ((HC.out.below (WC.out.trans (B7.out.mono WC.out.size))).up (WC.out.trans (B7.out.mono WC.out.size)).size)).mono ?_); rintro e w8 ⟨rfl, hb8⟩; have B8 := Lib.hid (B7.out.trans (hb8.mono B7.out.size)); obtain ⟨bx8, bz8⟩ := BX.out _ (WC.out.trans (B8.out.mono WC.out.size)); clear hb8 R7)
                    | (go_at_call 18; refine (WK.out _ (WR.out.trans (B8.out.mono WR.out.size))).mono ?_; rintro e w9 ⟨rfl, hb9⟩))
                  go_ret
                  exact ⟨rfl, hb9⟩
                · by_cases h4 : 1000000 < U + add_
                  · have g3 : decide (L + add_ < -1000000) = false := decide_eq_false h3
                    have g4 : decide (1000000 < U + add_) = true := decide_eq_true h4
                    go_wp2_with (first
                      | (go_at_call 19; (with_reducible refine CM.out.mono ?_); rintro e w5 ⟨ba, bc, rfl, hr5, hb5⟩; have RB := Lib.hid hr5; have B5 := Lib.hid hb5; clear hr5 hb5 CM)
                      | (go_at_call 19; (with_reducible refine (CT.out _ B5.out).mono ?_); rintro e w6 ⟨da, dc, rfl, hr6, hb6⟩; have RC := Lib.hid hr6; have R6 := Lib.hid ((RB.out.below hb6).up hb6.size); have B6 := Lib.hid (B5.out.trans (hb6.mono B5.out.size)); clear hr6 hb6 CT RB)
                      | (go_at_call 21; (with_reducible refine (SP.out _ _ _ R6.out ((HC.out.below (WC.out.trans (B6.out.mono WC.out.size))).up (WC.out.trans (B6.out.mono WC.out.size)).size)).mono ?_); rintro e w7 ⟨rfl, hb7⟩; have R7 := Lib.hid ((RC.out.below hb7).up hb7.size); have B7 := Lib.hid (B6.out.trans (hb7.mono B6.out.size)); clear hb7 RC R6)
                      | (go_at_call 21; (with_reducible refine (SP.out _ _ _ R7.out ((HC.out.below (WC.out.trans (B7.out.mono WC.out.size))).up (WC.out.trans (B7.out.mono WC.out.size)).size)).mono ?_); rintro e w8 ⟨rfl, hb8⟩; have B8 := Lib.hid (B7.out.trans (hb8.mono B7.out.size)); obtain ⟨bx8, bz8⟩ := BX.out _ (WC.out.trans (B8.out.mono WC.out.size)); clear hb8 R7)
                      | (go_at_call 18; refine (WK.out _ (WR.out.trans (B8.out.mono WR.out.size))).mono ?_; rintro e w9 ⟨rfl, hb9⟩))
                    go_ret
                    exact ⟨rfl, hb9⟩
                  · have g3 : decide (L + add_ < -1000000) = false := decide_eq_false h3
                    have g4 : decide (1000000 < U + add_) = false := decide_eq_false h4
                    have HH := Lib.hid (And.intro h3 h4)
                    clear h1 h2 h3 h4
                    go_wp2_with (first
                      | (go_at_call 19; (with_reducible refine CM.out.mono ?_); rintro e w5 ⟨ba, bc, rfl, hr5, hb5⟩; have RB := Lib.hid hr5; have B5 := Lib.hid hb5; clear hr5 hb5 CM)
                      | (go_at_call 19; (with_reducible refine (CT.out _ B5.out).mono ?_); rintro e w6 ⟨da, dc, rfl, hr6, hb6⟩; have RC := Lib.hid hr6; have R6 := Lib.hid ((RB.out.below hb6).up hb6.size); have B6 := Lib.hid (B5.out.trans (hb6.mono B5.out.size)); clear hr6 hb6 CT RB)
                      | (go_at_call 21; (with_reducible refine (SP.out _ _ _ R6.out ((HC.out.below (WC.out.trans (B6.out.mono WC.out.size))).up (WC.out.trans (B6.out.mono WC.out.size)).size)).mono ?_); rintro e w7 ⟨rfl, hb7⟩; have R7 := Lib.hid ((RC.out.below hb7).up hb7.size); have B7 := Lib.hid (B6.out.trans (hb7.mono B6.out.size)); clear hb7 RC R6)
                      | (go_at_call 21; (with_reducible refine (SP.out _ _ _ R7.out ((HC.out.below (WC.out.trans (B7.out.mono WC.out.size))).up (WC.out.trans (B7.out.mono WC.out.size)).size)).mono ?_); rintro e w8 ⟨rfl, hb8⟩; have B8 := Lib.hid (B7.out.trans (hb8.mono B7.out.size)); obtain ⟨bx8, bz8⟩ := BX.out _ (WC.out.trans (B8.out.mono WC.out.size)); clear hb8 R7))
                    clear g1 g2 g3 g4
                    go_loopg [12, 20] n (fun gg s12 s20 wr => ∃ kk : Nat, kk ≤ n ∧ n - kk ≤ gg ∧ s20 = .int .i64 kk ∧ Aside (Below w8.heap.size w8 wr) ∧ Aside (OwnI 3 wr w8.heap.size s12 ((zs.take kk).map fun a => a + add_)))
                    case atStart => exact ⟨0, Nat.zero_le _, by omega, rfl, Below.refl _ _, OwnI.nil⟩
                    case round =>
                      obtain ⟨kk, hkk, hg, rfl, BW, OW⟩ := hrel
                      by_cases hlt : kk < n
                      · have hltz : (kk : Int) < (n : Int) := by omega
                        have hk0 : (0 : Int) ≤ (kk : Int) := by omega
                        have hlt' : kk < zs.length := by have := HN.out; omega
                        have hx0 := low_le zs n kk hlt
                        have hx1 := high_ge zs n kk hlt
                        rw [HLU.out.1] at hx0
                        rw [HLU.out.2] at hx1
                        obtain ⟨xl, xu⟩ := HH.out
                        have B9 := Lib.hid (B8.out.trans (BW.out.mono B8.out.size))
                        have y1 := RD.out _ (WR.out.trans (B9.out.mono WR.out.size)) kk hlt
                        obtain ⟨bx1, _⟩ := BX.out _ (WC.out.trans (B9.out.mono WC.out.size))
                        have MS := Lib.hid (map_take_snoc (fun a => a + add_) zs kk hlt')
                        have hml : ((zs.take kk).map fun a => a + add_).length ≤ 300 := by rw [List.length_map, List.length_take]; omega
                        generalize ((zs.take kk).map fun a => a + add_) = ms at OW MS hml
                        generalize zs[kk]! = x at hx0 hx1 y1 MS
                        clear hlt' bx8 bz8
                        go_wp2
                        have hwr : IntKind.i64.wrap (x + add_) = x + add_ := IntWalk.i64_in _ (by omega)
                        go_region_law (obtain ⟨o1, o2, o3⟩ := app_pre BW.out (Nat.le_refl _) OW.out ((Below.refl wr.heap.size wr).drew) (x + add_) 3; refine step_append_I _ rfl _ _ 22 rfl i0 Tryd.underlying22 I0.out.1 I0.out.2.1 I0.out.2.2.1 I0.out.2.2.2 u12 ms (by simp [Act.eval]) w8.heap.size o1 o2 wr.heap.size 1 (x + add_) (by simp [Act.eval]) o3 (by omega) ?_; clear o1 o2 o3; intro g5 p5 cap5 w5' h1 h2 h3; have T5 := Lib.hid h1; have BW5 := Lib.hid (app_post BW.out (Nat.le_refl _) OW.out ((Below.refl wr.heap.size wr).drew) h2); clear h1 h2 h3)
                        all_goals
                          go_wp2
                          go_roundg (n - (kk + 1))
                          case measure => omega
                          case rel => exact ⟨kk + 1, by omega, by omega, by go_num, BW5.out, by rw [MS.out]; exact T5.out⟩
                      · have hltz : ¬ (kk : Int) < (n : Int) := by omega
                        obtain rfl : n = kk := by omega
                        have F1 : ∃ a c, u12 = .slice a n c ∧ Rd encInt 1 wr wr.heap.size a n (zs.map fun a => a + add_) := by
                          have h := OW.out
                          rw [HN.out, List.take_length] at h
                          obtain ⟨a, c, e, hr⟩ := h.rd (by rw [List.length_map, ← HN.out]; omega)
                          rw [List.length_map, ← HN.out] at e hr
                          exact ⟨a, c, e, hr⟩
                        obtain ⟨ma', mc', rfl, mr⟩ := F1
                        have CM := Lib.hid (Cycles_any (zs.map fun a => a + add_) ma' n mc' wr wr.heap.size (Nat.le_refl _) mr cs (by rw [add_cyc]; exact CS.out.1) nc CS.out.2 (added_ok HE.out add_ (by have := HH.out; rw [← HN.out, HLU.out.1]; omega) (by have := HH.out; rw [← HN.out, HLU.out.2]; omega)))
                        have B9 := Lib.hid (B8.out.trans (BW.out.mono B8.out.size))
                        clear mr bx8 bz8
                        go_wp2_with (first
                          | (go_at_call 19; (with_reducible refine CM.out.mono ?_); rintro e w10 ⟨fa, fc, rfl, hr10, hb10⟩; have R10 := Lib.hid hr10; have B10 := Lib.hid (B9.out.trans (hb10.mono B9.out.size)); clear hr10 hb10 CM)
                          | (go_at_call 21; (with_reducible refine (SP.out _ _ _ R10.out ((HC.out.below (WC.out.trans (B10.out.mono WC.out.size))).up (WC.out.trans (B10.out.mono WC.out.size)).size)).mono ?_); rintro e w11 ⟨rfl, hb11⟩; have B11 := Lib.hid (B10.out.trans (hb11.mono B10.out.size)); clear hb11 R10)
                          | (go_at_call 18; refine (WK.out _ (WR.out.trans (B11.out.mono WR.out.size))).mono ?_; rintro e w12 ⟨rfl, hb12⟩))
                        go_ret
                        exact ⟨rfl, hb12⟩
end Go.Proofs.YtchnhjffpldpiaaDoor
