/- swashplateref09.Damage where the series is one -/
import Derived.Test.YtchnhjffpldpiaaDoorRefD
namespace Go.Proofs.YtchnhjffpldpiaaDoor
open Go.RowKit

theorem refWithin_r (n lo hi : Int) (r : Bool) (h : inB n lo hi = r) (w : World) :
    Calls Tryd.prog 77 #[.int .i64 n, .int .i64 lo, .int .i64 hi] w fun e w' => e = .returned (.bool r) ∧ w' = w :=
  (refWithin_q n lo hi r h w).mono fun _ _ hh => ⟨hh.1, hh.2.symm⟩
set_option maxRecDepth 100000 in
set_option maxHeartbeats 1000000 in
theorem refDamage_go (zs : List Int) (steps : List (Int × Int)) (a : Option Addr) (n c : Nat) (a2 : Option Addr) (n2 c2 : Nat) (w : World) (B : Nat) (hB : B ≤ w.heap.size) (hR : Rd encInt 1 w B a n zs) (hS : Rd encPair 2 w B a2 n2 steps) (he : seriesE zs = 0) (h8 : n2 ≤ 8) (d er : Int) (hd : damR steps (cycP zs) = (d, er)) :
    Calls Tryd.prog 44 #[.slice a n c, .slice a2 n2 c2] w fun e w' => e = .returned (.tuple #[.int .i64 d, .int .i64 er]) ∧ Below w.heap.size w w' := by
  obtain ⟨hlen, _⟩ := loads_of he
  have hcl := cycP_len zs
  have hv := (cyc_halves zs).2
  obtain ⟨cs, hcs⟩ : ∃ cs, cycP zs = cs := ⟨_, rfl⟩
  obtain ⟨nc, hnc⟩ : ∃ nc, cs.length = nc := ⟨_, rfl⟩
  have SE := Lib.hid (refCycles_q zs a n c w B hB hR cs hcs nc hnc he)
  have h8z : ¬ (8 : Int) < (n2 : Int) := by omega
  rw [hcs] at hd hcl hv
  have hnc3 : nc ≤ 300 := by omega
  have HD := Lib.hid hd
  have HV := Lib.hid hv
  have HNC := Lib.hid hnc
  have HN2 := Lib.hid hS.len
  have ST : Hid (∀ W, Below w.heap.size w W → Rd encPair 2 W B a2 n2 steps) := fun W hW => hS.below (hW.mono hB)
  have STB := Lib.hid hB
  clear hR he hB hd hv hcl hcs hnc hlen hS
  go_enter Tryd.func44, Tryd.ntmps44
  go_wp2_with (go_at_call 42; refine SE.out.mono ?_; rintro e w1 ⟨a', c', rfl, hr, hb⟩; have HC := Lib.hid hr; have HB1 := Lib.hid hb; clear hr hb SE)
  go_loopg [8] n2 (fun gg s8 wr => ∃ k : Nat, k ≤ n2 ∧ n2 - k ≤ gg ∧ s8 = .int .i64 k ∧ Aside (Below w1.heap.size w1 wr) ∧ Aside (∀ j, j < k → badStep steps j = false))
  case atStart => exact ⟨0, Nat.zero_le _, by omega, rfl, Below.refl _ _, fun j hj => by omega⟩
  case round =>
    obtain ⟨k, hk, hg, rfl, BW, OK⟩ := hrel
    have HBW := Lib.hid (HB1.out.trans (BW.out.mono HB1.out.size))
    by_cases hlt : k < n2
    · have hltz : (k : Int) < (n2 : Int) := by omega
      have hk0 : (0 : Int) ≤ (k : Int) := by omega
      obtain ⟨b, off, rfl, hb, x1, x2⟩ := rd_pair (ST.out _ HBW.out) k hlt
      have BAD : Hid (badStep steps k = true → damR steps cs = (0, 1)) := fun h => damR_bad (by rw [← HN2.out]; exact hlt) h
      have GOOD : Hid (badStep steps k = false → ∀ j, j < k + 1 → badStep steps j = false) := fun h j hj => by
        by_cases e2 : j = k
        · subst e2; exact h
        · exact OK.out j (by omega)
      have BS : Hid (badStep steps k = (!inB (steps[k]!).1 0 1000000 || !inB (steps[k]!).2 0 1000000 || (decide (0 < k) && decide ((steps[k]!).1 ≤ (steps[k - 1]!).1)))) := rfl
      obtain ⟨s, hs⟩ : ∃ s, steps[k]! = s := ⟨_, rfl⟩
      rw [hs] at x1 x2 BS
      obtain ⟨sa, sb⟩ := s
      simp only at x1 x2
      clear hs
      cases h1 : inB sa 0 1000000 with
      | false =>
        have W1 := Lib.hid (refWithin_r sa 0 1000000 false h1)
        have HBd := Lib.hid (BAD.out (by rw [BS.out]; simp only [h1]; rfl))
        rw [HD.out] at HBd
        clear h1 BS BAD GOOD
        go_wp2
        go_quiet ((go_at_call 77; exact Calls.quiet_of_same (W1.out _)))
        refine world_gen (w := wr) (Q := fun W => Exit.then _ _ _ _ W) (fun W bW => ?_) _
        go_wp2
        refine bodyPost_ret (v := .tuple #[.int .i64 0, .int .i64 1]) (by simp [results, Tryd.results44, go_sem]) rfl ?_
        have e := HBd.out
        rw [Prod.mk.injEq] at e
        exact ⟨by rw [e.1, e.2], HBW.out.trans (bW.mono HBW.out.size)⟩
      | true =>
        have W1 := Lib.hid (refWithin_r sa 0 1000000 true h1)
        cases h2 : inB sb 0 1000000 with
        | false =>
          have W2 := Lib.hid (refWithin_r sb 0 1000000 false h2)
          have HBd := Lib.hid (BAD.out (by rw [BS.out]; simp only [h1, h2]; rfl))
          rw [HD.out] at HBd
          clear h1 h2 BS BAD GOOD
          go_wp2
          go_quiet ((go_at_call 77; (first | (with_reducible exact Calls.quiet_of_same (W1.out _)) | (with_reducible exact Calls.quiet_of_same (W2.out _)))))
          refine world_gen (w := wr) (Q := fun W => Exit.then _ _ _ _ W) (fun W bW => ?_) _
          go_wp2
          refine bodyPost_ret (v := .tuple #[.int .i64 0, .int .i64 1]) (by simp [results, Tryd.results44, go_sem]) rfl ?_
          have e := HBd.out
          rw [Prod.mk.injEq] at e
          exact ⟨by rw [e.1, e.2], HBW.out.trans (bW.mono HBW.out.size)⟩
        | true =>
          have W2 := Lib.hid (refWithin_r sb 0 1000000 true h2)
          cases k with
          | zero =>
            have HG := Lib.hid (GOOD.out (by rw [BS.out]; simp only [h1, h2]; rfl))
            rw [Nat.zero_mul, Nat.add_zero] at x1 x2
            have h0 : 0 < n2 := hlt
            clear h1 h2 BS BAD GOOD
            go_wp2
            go_quiet ((go_at_call 77; (first | (with_reducible exact Calls.quiet_of_same (W1.out _)) | (with_reducible exact Calls.quiet_of_same (W2.out _)))))
            refine world_gen (w := wr) (Q := fun W => Exit.then _ _ _ _ W) (fun W bW => ?_) _
            have HbW := Lib.hid bW
            clear bW x1 x2
            go_wp2
            go_roundg (n2 - (0 + 1))
            case measure => omega
            case rel => exact ⟨0 + 1, by omega, by omega, by go_num, BW.out.trans (HbW.out.mono BW.out.size), HG.out⟩
          | succ k =>
            have hkz : ((k : Int) + 1 == 0) = false := by rw [beq_eq_false_iff_ne]; omega
            have hkp : (0 : Int) < (k : Int) + 1 := by omega
            obtain ⟨b', off', e, _, p1, _⟩ := rd_pair (ST.out _ HBW.out) k (by omega)
            cases e
            rw [Nat.add_sub_cancel] at BS
            generalize (steps[k]!).1 = pv at p1 BS
            by_cases hle : sa ≤ pv
            · have HBd := Lib.hid (BAD.out (by rw [BS.out]; simp only [h1, h2, decide_eq_true hle, Bool.and_true, Bool.or_eq_true, decide_eq_true_eq]; exact .inr (Nat.succ_pos k)))
              rw [HD.out] at HBd
              have hd1 : decide (sa ≤ pv) = true := decide_eq_true hle
              clear h1 h2 BS BAD GOOD hle
              go_wp2
              go_quiet ((go_at_call 77; (first | (with_reducible exact Calls.quiet_of_same (W1.out _)) | (with_reducible exact Calls.quiet_of_same (W2.out _)))))
              refine world_gen (w := wr) (Q := fun W => Exit.then _ _ _ _ W) (fun W bW => ?_) _
              go_wp2
              refine bodyPost_ret (v := .tuple #[.int .i64 0, .int .i64 1]) (by simp [results, Tryd.results44, go_sem]) rfl ?_
              have e := HBd.out
              rw [Prod.mk.injEq] at e
              exact ⟨by rw [e.1, e.2], HBW.out.trans (bW.mono HBW.out.size)⟩
            · have HG := Lib.hid (GOOD.out (by rw [BS.out]; simp only [h1, h2, decide_eq_false hle, Bool.and_false, Bool.not_true, Bool.or_false]))
              have hd1 : decide (sa ≤ pv) = false := decide_eq_false hle
              clear h1 h2 BS BAD GOOD
              go_wp2
              go_quiet ((go_at_call 77; (first | (with_reducible exact Calls.quiet_of_same (W1.out _)) | (with_reducible exact Calls.quiet_of_same (W2.out _)))))
              refine world_gen (w := wr) (Q := fun W => Exit.then _ _ _ _ W) (fun W bW => ?_) _
              have HbW := Lib.hid bW
              clear bW x1 x2 p1
              go_wp2
              go_roundg (n2 - (k + 1 + 1))
              case measure => omega
              case rel => exact ⟨k + 1 + 1, by omega, by omega, by go_num, BW.out.trans (HbW.out.mono BW.out.size), HG.out⟩
    · have hltz : ¬ (k : Int) < (n2 : Int) := by omega
      obtain rfl : n2 = k := by omega
      have hs0 : stepsE steps = 0 := stepsE_ok (by rw [← HN2.out]; exact h8) (fun j hj => OK.out j (by rw [HN2.out]; exact hj))
      have HST := Lib.hid (steps_of hs0).2
      have hdd := HD.out
      rw [damR_ok hs0, HNC.out, Prod.mk.injEq] at hdd
      have HDD := Lib.hid hdd
      clear hs0 hdd HD OK HB1
      rename World => w2
      go_wp2
      go_loopg [9, 10] nc (fun gg s9 s10 wr => ∃ i : Nat, i ≤ nc ∧ nc - i ≤ gg ∧ s9 = .int .i64 (dsumUp steps cs i) ∧ s10 = .int .i64 i ∧ Aside (Below w2.heap.size w2 wr))
      case atStart => exact ⟨0, Nat.zero_le _, by omega, rfl, rfl, Below.refl _ _⟩
      case round =>
        obtain ⟨i, hi, hg, rfl, rfl, BW2⟩ := hrel
        by_cases hlt : i < nc
        · have hltz : (i : Int) < (nc : Int) := by omega
          have hi0 : (0 : Int) ≤ (i : Int) := by omega
          obtain ⟨cb, coff, rfl, hcb, y1, y2⟩ := rd_pair (HC.out.below (BW.out.trans (BW2.out.mono BW.out.size))) i hlt
          have hcb2 : cb < wr.heap.size := Nat.lt_of_lt_of_le hcb (Nat.le_trans BW.out.size BW2.out.size)
          have hh := HV.out _ (get_mem2 cs i (by rw [HNC.out]; exact hlt))
          have DS := Lib.hid (dsumUp_succ steps cs i)
          obtain ⟨d0, d1⟩ := dsum_bd HST.out HV.out i (by rw [HNC.out]; exact hi)
          have DB := Lib.hid (fun size => dmg_bd HST.out size)
          generalize dsumUp steps cs i = D at DS d0 d1 ⊢
          obtain ⟨sz, hsz⟩ : ∃ x, (cs[i]!).1 = x := ⟨_, rfl⟩
          obtain ⟨hv, hhv⟩ : ∃ x, (cs[i]!).2 = x := ⟨_, rfl⟩
          rw [hsz] at y1 DS
          rw [hhv] at y2 DS hh
          clear hsz hhv
          have hd6 : D ≤ 600000000 := by omega
          rename World => w3
          go_wp2
          go_loopg [11, 12] n2 (fun gg s11 s12 wr => ∃ j : Nat, j ≤ n2 ∧ n2 - j ≤ gg ∧ s11 = .int .i64 (dmgUp steps sz j) ∧ s12 = .int .i64 j ∧ Aside (Below w3.heap.size w3 wr))
          case atStart => exact ⟨0, Nat.zero_le _, by omega, rfl, rfl, Below.refl _ _⟩
          case round =>
            obtain ⟨j, hj, hg2, rfl, rfl, BW3⟩ := hrel
            by_cases hlt3 : j < n2
            · have hltz3 : (j : Int) < (n2 : Int) := by omega
              have hj0 : (0 : Int) ≤ (j : Int) := by omega
              obtain ⟨b, off, rfl, hb, x1, x2⟩ := rd_pair (ST.out _ (HBW.out.trans ((BW2.out.trans (BW3.out.mono BW2.out.size)).mono HBW.out.size))) j hlt3
              have z1 := (BW3.out.cell (p := ⟨cb, coff + i * 2, none⟩) hcb2).trans y1
              have hb2 : b < wr.heap.size := Nat.lt_of_lt_of_le hb (Nat.le_trans STB.out (Nat.le_trans HBW.out.size (Nat.le_trans BW2.out.size BW3.out.size)))
              have DU := Lib.hid (dmgUp_succ steps sz j)
              generalize (steps[j]!).1 = sa at x1 DU
              generalize (steps[j]!).2 = sb at x2 DU
              by_cases hle : sa ≤ sz
              · have hle2 : decide (sa ≤ sz) = true := decide_eq_true hle
                rw [if_pos hle] at DU
                go_wp2
                go_quiet (fail)
                refine world_gen (w := wr) (Q := fun W => Exit.then _ _ _ _ W) (fun W bW => ?_) _
                have u2 := (bW.cell (p := ⟨b, off + j * 2 + 1, none⟩) hb2).trans x2
                have HbW := Lib.hid bW
                clear bW x1 x2 z1
                go_wp2
                go_roundg (n2 - (j + 1))
                case measure => omega
                case rel => exact ⟨j + 1, by omega, by omega, by rw [DU.out], by go_num, BW3.out.trans (HbW.out.mono BW3.out.size)⟩
              · have hle2 : decide (sa ≤ sz) = false := decide_eq_false hle
                rw [if_neg hle] at DU
                go_wp2
                go_quiet (fail)
                refine world_gen (w := wr) (Q := fun W => Exit.then _ _ _ _ W) (fun W bW => ?_) _
                have HbW := Lib.hid bW
                clear bW x1 x2 z1
                go_wp2
                go_roundg (n2 - (j + 1))
                case measure => omega
                case rel => exact ⟨j + 1, by omega, by omega, by rw [DU.out], by go_num, BW3.out.trans (HbW.out.mono BW3.out.size)⟩
            · have hltz3 : ¬ (j : Int) < (n2 : Int) := by omega
              obtain rfl : n2 = j := by omega
              have z2 := (BW3.out.cell (p := ⟨cb, coff + i * 2 + 1, none⟩) hcb2).trans y2
              obtain ⟨e0, e1⟩ := DB.out sz n2 (by rw [HN2.out]; exact Nat.le_refl _)
              rw [← HN2.out] at DS
              generalize dmgUp steps sz n2 = dm at DS e0 e1 ⊢
              clear y1 y2
              rcases hh with rfl | rfl
              all_goals
                go_wp2
                go_roundg (nc - (i + 1))
                case measure => omega
                case rel => exact ⟨i + 1, by omega, by omega, (by rw [DS.out]; try (congr 1; omega)), by go_num, BW2.out.trans (BW3.out.mono BW2.out.size)⟩
        · have hltz : ¬ (i : Int) < (nc : Int) := by omega
          obtain rfl : nc = i := by omega
          rw [HDD.out.1]
          go_wp2
          refine bodyPost_ret (v := .tuple #[.int .i64 d, .int .i64 0]) (by simp [results, Tryd.results44, go_sem]) rfl ?_
          exact ⟨by rw [HDD.out.2], HBW.out.trans (BW2.out.mono HBW.out.size)⟩
end Go.Proofs.YtchnhjffpldpiaaDoor
