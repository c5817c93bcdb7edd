/- swashplateref09.within, distance, checkSeries -/
import Derived.Test.YtchnhjffpldpiaaDoorRefW
import Derived.Test.YtchnhjffpldpiaaDoorMB
namespace Go.Proofs.YtchnhjffpldpiaaDoor
open Go.RowKit

set_option maxHeartbeats 400000 in
theorem refWithin_any (n lo hi : Int) (w : World) :
    Calls Tryd.prog 77 #[.int .i64 n, .int .i64 lo, .int .i64 hi] w fun e w' => e = .returned (.bool (inB n lo hi)) ∧ w = w' := by
  go_enter Tryd.func77, Tryd.ntmps77
  go_wp2
  all_goals
    go_ret
    refine ⟨?_, rfl⟩
    exact ret_bool (by rw [Bool.eq_iff_iff]; simp [inB, *]; try omega)
theorem refWithin_q (n lo hi : Int) (r : Bool) (h : inB n lo hi = r) (w : World) :
    Calls Tryd.prog 77 #[.int .i64 n, .int .i64 lo, .int .i64 hi] w fun e w' => e = .returned (.bool r) ∧ w = w' :=
  (refWithin_any n lo hi w).mono fun _ _ hh => ⟨by rw [← h]; exact hh.1, hh.2⟩

set_option maxHeartbeats 400000 in
theorem refDistance_any (a b : Int) (w : World) (ha0 : -1000000 ≤ a) (ha1 : a ≤ 1000000) (hb0 : -1000000 ≤ b) (hb1 : b ≤ 1000000) :
    Calls Tryd.prog 86 #[.int .i64 a, .int .i64 b] w fun e w' => e = .returned (.int .i64 (dist a b)) ∧ w = w' := by
  by_cases h : b ≤ a
  all_goals
    go_enter Tryd.func86, Tryd.ntmps86
    go_wp2
    go_ret
    refine ⟨ret_int ?_, rfl⟩
    unfold dist
    omega

theorem any_take_none {zs : List Int} (h : ∀ j, j < zs.length → badLoad zs[j]! = false) : zs.any badLoad = false := by
  rw [List.any_eq_false]
  intro x hx
  obtain ⟨i, hi, rfl⟩ := mem_get hx
  rw [h i hi]
  decide

set_option maxHeartbeats 1000000 in
theorem refSeries_any (zs : List Int) (a : Option Addr) (n c : Nat) (w : World) (B : Nat) (hR : Rd encInt 1 w B a n zs) :
    Calls Tryd.prog 85 #[.slice a n c] w fun e w' => e = .returned (.int .i64 (seriesE zs)) ∧ w = w' := by
  obtain ⟨b, off, ha, hc⟩ := hR.ex
  have HN := Lib.hid hR.len
  have hbig := hR.big
  clear hR
  unfold seriesE
  rw [← HN.out]
  by_cases h : 300 < (n : Int)
  · have h' : 300 < n := by omega
    rw [if_pos h']
    clear h' ha hc
    go_enter Tryd.func85, Tryd.ntmps85
    go_wp2
    go_ret
    exact ⟨rfl, rfl⟩
  · have h' : ¬ 300 < n := by omega
    rw [if_neg h']
    obtain ⟨v, hv⟩ : ∃ v : Int, (if zs.any badLoad = true then 1 else 0) = v := ⟨_, rfl⟩
    rw [hv]
    have HV := Lib.hid hv
    clear h' hv
    go_enter Tryd.func85, Tryd.ntmps85
    go_wp2
    go_loopg [3] n (fun gg s3 wr => ∃ k : Nat, k ≤ n ∧ n - k ≤ gg ∧ s3 = .int .i64 k ∧ w = wr ∧ Aside (∀ j, j < k → badLoad zs[j]! = false))
    case atStart => exact ⟨0, Nat.zero_le _, by omega, rfl, rfl, fun j hj => by omega⟩
    case round =>
      obtain ⟨k, hk, hg, rfl, rfl, OK⟩ := hrel
      by_cases hlt : k < n
      · have hltz : (k : Int) < (n : Int) := by omega
        have hk0 : (0 : Int) ≤ (k : Int) := by omega
        obtain ⟨rfl, hb⟩ := ha (by omega)
        have hl := hc k hlt 0 _ rfl
        rw [Nat.mul_one, Nat.add_zero] at hl
        have HB := Lib.hid (fun j (hj : j < k + 1) (e : badLoad zs[k]! = false) => (show badLoad zs[j]! = false by
          by_cases e2 : j = k
          · subst e2; exact e
          · exact OK.out j (by omega)))
        have hmem : zs[k]! ∈ zs := get_mem zs k (by have := HN.out; omega)
        have HT : Hid (badLoad zs[k]! = true → zs.any badLoad = true) := fun h => List.any_eq_true.2 ⟨_, hmem, h⟩
        clear hc hmem
        generalize zs[k]! = x at hl HB HT
        cases hx : inB x (-1000000) 1000000 with
        | true =>
          have BL := Lib.hid (show badLoad x = false by unfold badLoad; rw [hx]; rfl)
          have WI := Lib.hid (refWithin_q x (-1000000) 1000000 true hx w)
          clear hx HT
          go_wp2_with (go_at_call 77; refine WI.out.mono ?_; rintro e w' ⟨rfl, rfl⟩)
          go_roundg (n - (k + 1))
          case measure => omega
          case rel => exact ⟨k + 1, by omega, by omega, by go_num, rfl, fun j hj => HB.out j hj BL.out⟩
        | false =>
          have BL := Lib.hid (show badLoad x = true by unfold badLoad; rw [hx]; rfl)
          have WI := Lib.hid (refWithin_q x (-1000000) 1000000 false hx w)
          clear hx HB
          go_wp2_with (go_at_call 77; refine WI.out.mono ?_; rintro e w' ⟨rfl, rfl⟩)
          go_ret
          exact ⟨ret_int (by rw [← HV.out, HT.out BL.out]; rfl), rfl⟩
      · have hltz : ¬ (k : Int) < (n : Int) := by omega
        obtain rfl : n = k := by omega
        go_wp2
        go_ret
        exact ⟨ret_int (by rw [← HV.out, any_take_none (fun j hj => OK.out j (by rw [HN.out]; exact hj))]; rfl), rfl⟩
end Go.Proofs.YtchnhjffpldpiaaDoor
