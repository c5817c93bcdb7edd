/- parts.checkSeries -/
import Derived.Test.YtchnhjffpldpiaaDoorTurn
namespace Go.Proofs.YtchnhjffpldpiaaDoor
open Go.RowKit

def badLoad (x : Int) : Bool := !inB x (-1000000) 1000000
/-- The error of a series. -/
def seriesE (zs : List Int) : Int := if 300 < zs.length then 2 else if zs.any badLoad then 1 else 0

theorem loads_of {zs : List Int} (h : seriesE zs = 0) : zs.length ≤ 300 ∧ Loads zs := by
  unfold seriesE at h
  split at h
  · omega
  · split at h
    · omega
    · rename_i h1 h2
      refine ⟨by omega, fun x hx => ?_⟩
      have : badLoad x = false := by
        simp only [List.any_eq_true, not_exists, not_and, Bool.not_eq_true] at h2
        exact h2 x hx
      unfold badLoad at this
      simpa [inB] using this

set_option maxHeartbeats 400000 in
theorem badLoad_any (x : Int) (w : World) :
    Calls Tryd.prog 112 (#[val_int x] ++ #[]) w fun e w' => e = .returned (.bool (badLoad x)) ∧ Below w.heap.size w w' := by
  simp only [val_int, Array.append_empty]
  go_enter Tryd.func112, Tryd.ntmps112
  go_wp2_with (go_at_call 66; refine (within_any _ _ _ _).mono ?_; rintro e w' ⟨rfl, rfl⟩)
  all_goals
    go_ret
    exact ⟨ret_bool (by simp [badLoad]), Below.refl _ _⟩

set_option maxHeartbeats 400000 in
theorem series_any (zs : List Int) (a : Option Addr) (n c : Nat) (w : World) (B : Nat) (hB : B ≤ w.heap.size) (hR : Rd encInt 1 w B a n zs) :
    Calls Tryd.prog 62 #[.slice a n c] w fun e w' => e = .returned (.int .i64 (seriesE zs)) ∧ Below w.heap.size w w' := by
  have hn := hR.len
  have hbig := hR.big
  have eg := enters_of (P := Tryd.prog) Tryd.func112 (by kernel_rfl) rfl
  have C := Lib.hid (contains_int zs badLoad 112 #[] eg a n c w B hB hR (fun j _ W _ => badLoad_any _ W))
  unfold seriesE
  rw [← hn]
  clear eg hR hn hB
  by_cases h : 300 < (n : Int)
  · have h' : 300 < n := by omega
    rw [if_pos h']
    clear h'
    go_enter Tryd.func62, Tryd.ntmps62
    go_wp2
    go_ret
    exact ⟨rfl, Below.refl _ _⟩
  · have h' : ¬ 300 < n := by omega
    rw [if_neg h']
    clear h'
    generalize zs.any badLoad = v at C
    cases v
    all_goals
      go_enter Tryd.func62, Tryd.ntmps62
      go_wp2_with (go_at_call 88; refine C.out.mono ?_; rintro e w' ⟨rfl, hb⟩)
      go_ret
      exact ⟨rfl, hb⟩

set_option maxHeartbeats 400000 in
theorem count_any (v : Value) (w : World) (a : Option Addr) (n c : Nat) (hv : v = .slice a n c) :
    Calls Tryd.prog 63 #[v] w fun e w' => e = .returned (.func (.func 113) #[] #[.pointer (some ⟨w.heap.size, 0, none⟩)]) ∧ w' = w.alloc (.cells #[.slice a n c] 22) := by
  subst hv
  go_enter Tryd.func63, Tryd.ntmps63
  go_wp2
  go_ret
  exact ⟨rfl, rfl⟩
end Go.Proofs.YtchnhjffpldpiaaDoor
