/- parts.Damage where a step is none. -/
import Derived.Test.YtchnhjffpldpiaaDoorPDam
namespace Go.Proofs.YtchnhjffpldpiaaDoor
open Go Go.RowKit

theorem within_q2 (n lo hi : Int) (r : Bool) (h : inB n lo hi = r) (w : World) :
    Calls Tryd.prog 66 #[.int .i64 n, .int .i64 lo, .int .i64 hi] w fun e w' => e = .returned (.bool r) ∧ w' = w :=
  (within_any n lo hi w).mono fun _ _ hh => ⟨by rw [hh.1, h], hh.2.symm⟩

variable {zs : List Int} {steps : List (Int × Int)} {a a2 : Option Addr} {n c n2 c2 : Nat} {w : World} {B : Nat}

set_option maxRecDepth 100000 in
set_option maxHeartbeats 2000000 in
theorem dam_bad (hB : B ≤ w.heap.size) (hR : Rd encInt 1 w B a n zs) (hS : Rd encPair 2 w B a2 n2 steps) (he : seriesE zs = 0) (h8 : n2 ≤ 8) (i0 : Nat) (hi0 : i0 < n2) (hbad : badStep steps i0 = true) (hgood : ∀ j, j < i0 → badStep steps j = false) :
    Calls Tryd.prog 43 #[.slice a n c, .slice a2 n2 c2] w fun e w' => e = .returned (.tuple #[.int .i64 0, .int .i64 1]) ∧ Below w.heap.size w w' := by
  have SE := dam_series (c := c) hB hR 0 he (.slice a2 n2 c2)
  have h8z : ¬ (8 : Int) < (n2 : Int) := by omega
  have HBAD := Lib.hid hbad
  have HGOOD := Lib.hid hgood
  have ST : Hid (∀ W, Below w.heap.size w W → Rd encPair 2 W B a2 n2 steps) := fun W hW => hS.below (hW.mono hB)
  have HBS := Lib.hid hB
  clear hR hB he hS hbad hgood
  go_enter Tryd.func43, Tryd.ntmps43
  go_wp2_with (go_at_call 62; refine (SE.out _ rfl).mono ?_; rintro e w1 ⟨rfl, b1, b2, hb, hz⟩; have hc0 := b1.cell; have B1 := Lib.hid b1; have B2 := Lib.hid b2; have HB1 := Lib.hid hb; clear b1 b2 hb SE)
  go_loopg [23] n2 (fun gg s23 wr => ∃ k : Nat, k ≤ i0 ∧ n2 - k ≤ gg ∧ s23 = .int .i64 k ∧ Aside (Below w1.heap.size w1 wr))
  case atStart => exact ⟨0, Nat.zero_le _, by omega, rfl, Below.refl _ _⟩
  case round =>
    obtain ⟨k, hk, hg, rfl, BW⟩ := hrel
    have HBW := Lib.hid (HB1.out.trans (BW.out.mono HB1.out.size))
    have hltz : (k : Int) < (n2 : Int) := by omega
    have hlt : k < n2 := by omega
    have hk0 : (0 : Int) ≤ (k : Int) := by omega
    have hcs := (BW.out.cell (p := ⟨w.heap.size, 0, none⟩) B1.out.lt).trans B1.out.cell
    have hcv := (BW.out.block _ B2.out.lt).trans B2.out
    have hcw := Boxed.cell hcv
    have hfw := Boxed.frozen hcv
    have hsz : w.heap.size + 1 < wr.heap.size := Boxed.lt hcv
    have hsz0 : w.heap.size < wr.heap.size := by omega
    clear hc0 hcv
    obtain ⟨b, off, rfl, hb, x1, x2⟩ := rd_pair (ST.out _ HBW.out) k hlt
    have hb2 : b < wr.heap.size := by have := HBS.out; omega
    have BS : Hid (badStep steps k = (!inB (steps[k]!).1 0 1000000 || !inB (steps[k]!).2 0 1000000 || (decide (0 < k) && decide ((steps[k]!).1 ≤ (steps[k - 1]!).1)))) := rfl
    obtain ⟨s, hs⟩ : ∃ s, steps[k]! = s := ⟨_, rfl⟩
    rw [hs] at x1 x2 BS
    obtain ⟨sa, sb⟩ := s
    simp only at x1 x2
    clear hs
    have GB : Hid (badStep steps k = false → k < i0) := fun h => by
      rcases Nat.lt_or_ge k i0 with h1 | h1
      · exact h1
      · obtain rfl : k = i0 := by omega
        rw [HBAD.out] at h; cases h
    have BB : Hid (badStep steps k = true → k = i0) := fun h => by
      rcases Nat.lt_or_ge k i0 with h1 | h1
      · rw [HGOOD.out k h1] at h; cases h
      · omega
    have NW : Hid (∀ W, Below (wr.heap.size + 1) (wr.alloc (.cells #[.int .i64 sa, .int .i64 sb] 30)) W → W.cell? ⟨w.heap.size, 0, none⟩ = some (.slice (some ⟨b, off, none⟩) n2 c2) ∧ W.cell? ⟨w.heap.size + 1, 0, none⟩ = some (.int .i64 0) ∧ W.frozen? ⟨w.heap.size + 1, 0, none⟩ = false ∧ Below w1.heap.size w1 W ∧ Below w.heap.size w W) := fun W hW => by
      have h1 : Below wr.heap.size wr W := ((Below.refl _ wr).alloc (Nat.le_refl _) _).trans (hW.mono (Nat.le_succ _))
      exact ⟨(h1.cell (p := ⟨w.heap.size, 0, none⟩) (by simp only; omega)).trans hcs, (h1.cell (p := ⟨w.heap.size + 1, 0, none⟩) hsz).trans hcw, (h1.frozen (p := ⟨w.heap.size + 1, 0, none⟩) hsz).trans hfw, BW.out.trans (h1.mono BW.out.size), HBW.out.trans (h1.mono HBW.out.size)⟩
    have FIN : Hid (∀ (W : World), Below (wr.heap.size + 1) (wr.alloc (.cells #[.int .i64 sa, .int .i64 sb] 30)) W → Below w.heap.size w (W.setCell ⟨w.heap.size + 1, 0, none⟩ (.int .i64 0))) := fun W hW => (NW.out W hW).2.2.2.2.setCell (p := ⟨w.heap.size + 1, 0, none⟩) (Nat.le_succ _) _
    have MN : Hid (∀ (W : World), Below (wr.alloc (.cells #[.int .i64 sa, .int .i64 sb] 30)).heap.size (wr.alloc (.cells #[.int .i64 sa, .int .i64 sb] 30)) W → Below (wr.heap.size + 1) (wr.alloc (.cells #[.int .i64 sa, .int .i64 sb] 30)) W) := fun W hW => by rwa [World.size_alloc] at hW
    cases h1 : inB sa 0 1000000 with
    | false =>
      have W1 := Lib.hid (within_q2 sa 0 1000000 false h1)
      clear h1 BS GB BB
      go_wp2
      go_quiet ((go_at_call 66; exact Calls.quiet_of_same (W1.out _)))
      refine world_gen (w := wr.alloc (.cells #[.int .i64 sa, .int .i64 sb] 30)) (Q := fun W => Exit.then _ _ _ _ W) (fun W bW => ?_) _
      obtain ⟨e1, e2, e3, _, _⟩ := NW.out W (MN.out W bW)
      have HF := Lib.hid (FIN.out W (MN.out W bW))
      clear bW hcs hcw hfw x1 x2
      go_wp2
      exact bodyPost_ret (v := .tuple #[.int .i64 0, .int .i64 1]) (by simp [results, Tryd.results43, go_sem, e2]) rfl ⟨rfl, HF.out⟩
    | true =>
      have W1 := Lib.hid (within_q2 sa 0 1000000 true h1)
      cases h2 : inB sb 0 1000000 with
      | false =>
        have W2 := Lib.hid (within_q2 sb 0 1000000 false h2)
        clear h1 h2 BS GB BB
        go_wp2
        go_quiet ((go_at_call 66; (first | (with_reducible exact Calls.quiet_of_same (W1.out _)) | (with_reducible exact Calls.quiet_of_same (W2.out _)))))
        refine world_gen (w := wr.alloc (.cells #[.int .i64 sa, .int .i64 sb] 30)) (Q := fun W => Exit.then _ _ _ _ W) (fun W bW => ?_) _
        obtain ⟨e1, e2, e3, _, _⟩ := NW.out W (MN.out W bW)
        have HF := Lib.hid (FIN.out W (MN.out W bW))
        clear bW hcs hcw hfw x1 x2
        go_wp2
        exact bodyPost_ret (v := .tuple #[.int .i64 0, .int .i64 1]) (by simp [results, Tryd.results43, go_sem, e2]) rfl ⟨rfl, HF.out⟩
      | true =>
        have W2 := Lib.hid (within_q2 sb 0 1000000 true h2)
        cases k with
        | zero =>
          have HG := Lib.hid (GB.out (by rw [BS.out]; simp only [h1, h2]; rfl))
          rw [Nat.zero_mul, Nat.add_zero] at x1 x2
          have h0 : 0 < n2 := hlt
          clear h1 h2 BS GB BB
          go_wp2
          go_quiet ((go_at_call 66; (first | (with_reducible exact Calls.quiet_of_same (W1.out _)) | (with_reducible exact Calls.quiet_of_same (W2.out _)))))
          refine world_gen (w := wr.alloc (.cells #[.int .i64 sa, .int .i64 sb] 30)) (Q := fun W => Exit.then _ _ _ _ W) (fun W bW => ?_) _
          obtain ⟨e1, e2, e3, e4, _⟩ := NW.out W (MN.out W bW)
          have HF := Lib.hid e4
          clear bW hcs hcw hfw x1 x2 e1 e2 e3 e4
          go_wp2
          go_roundg (n2 - (0 + 1))
          case measure => omega
          case rel => exact ⟨0 + 1, HG.out, by omega, by go_num, HF.out⟩
        | succ k =>
          have hkz : ((k : Int) + 1 == 0) = false := by rw [beq_eq_false_iff_ne]; omega
          have hkp : (0 : Int) < (k : Int) + 1 := by omega
          obtain ⟨b', off', e, _, p1, _⟩ := rd_pair (ST.out _ HBW.out) k (by omega)
          cases e
          rw [Nat.add_sub_cancel] at BS
          generalize (steps[k]!).1 = pv at p1 BS
          by_cases hle : sa ≤ pv
          · have hd1 : decide (sa ≤ pv) = true := decide_eq_true hle
            clear h1 h2 BS GB BB hle
            go_wp2
            go_quiet ((go_at_call 66; (first | (with_reducible exact Calls.quiet_of_same (W1.out _)) | (with_reducible exact Calls.quiet_of_same (W2.out _)))))
            refine world_gen (w := wr.alloc (.cells #[.int .i64 sa, .int .i64 sb] 30)) (Q := fun W => Exit.then _ _ _ _ W) (fun W bW => ?_) _
            obtain ⟨e1, e2, e3, _, _⟩ := NW.out W (MN.out W bW)
            have HF := Lib.hid (FIN.out W (MN.out W bW))
            clear bW hcs hcw hfw x1 x2 p1
            go_wp2
            exact bodyPost_ret (v := .tuple #[.int .i64 0, .int .i64 1]) (by simp [results, Tryd.results43, go_sem, e2]) rfl ⟨rfl, HF.out⟩
          · have HG := Lib.hid (GB.out (by rw [BS.out]; simp only [h1, h2, decide_eq_false hle, Bool.and_false, Bool.not_true, Bool.or_false]))
            have hd1 : decide (sa ≤ pv) = false := decide_eq_false hle
            clear h1 h2 BS GB BB
            go_wp2
            go_quiet ((go_at_call 66; (first | (with_reducible exact Calls.quiet_of_same (W1.out _)) | (with_reducible exact Calls.quiet_of_same (W2.out _)))))
            refine world_gen (w := wr.alloc (.cells #[.int .i64 sa, .int .i64 sb] 30)) (Q := fun W => Exit.then _ _ _ _ W) (fun W bW => ?_) _
            obtain ⟨e1, e2, e3, e4, _⟩ := NW.out W (MN.out W bW)
            have HF := Lib.hid e4
            clear bW hcs hcw hfw x1 x2 e1 e2 e3 e4 p1
            go_wp2
            go_roundg (n2 - (k + 1 + 1))
            case measure => omega
            case rel => exact ⟨k + 1 + 1, HG.out, by omega, by go_num, HF.out⟩
end Go.Proofs.YtchnhjffpldpiaaDoor
