/- swashplateref09.Damage -/
import Derived.Test.YtchnhjffpldpiaaDoorRefC2
import Derived.Test.YtchnhjffpldpiaaDoorDamL
namespace Go.Proofs.YtchnhjffpldpiaaDoor
open Go.RowKit

theorem refCycles_q (zs : List Int) (a : Option Addr) (n c : Nat) (w : World) (B : Nat) (hB : B ≤ w.heap.size) (hR : Rd encInt 1 w B a n zs) (cs : List (Int × Int)) (hcs : cycP zs = cs) (nc : Nat) (hnc : cs.length = nc) (he : seriesE zs = 0) :
    Calls Tryd.prog 42 #[.slice a n c] w fun e w' => ∃ a' c', e = .returned (.tuple #[.slice a' nc c', .int .i64 0]) ∧ Rd encPair 2 w' w'.heap.size a' nc cs ∧ Below w.heap.size w w' := by
  subst hcs
  subst hnc
  refine (refCycles_ok zs a n c w B hB hR he).mono ?_
  rintro e w' ⟨v, rfl, hr, hb⟩
  have hl : (cycP zs).length ≤ 1000000 := by have := cycP_len zs; have := (loads_of he).1; omega
  obtain ⟨a', c', rfl, h⟩ := rd_row hr hl
  exact ⟨a', c', rfl, h, hb⟩

set_option maxRecDepth 100000 in
set_option maxHeartbeats 1000000 in
theorem refCycles_err (zs : List Int) (a : Option Addr) (n c : Nat) (w : World) (B : Nat) (hR : Rd encInt 1 w B a n zs) (er : Int) (he : seriesE zs = er) (h0 : er ≠ 0) :
    Calls Tryd.prog 42 #[.slice a n c] w fun e w' => e = .returned (.tuple #[.slice none 0 0, .int .i64 er]) ∧ w = w' := by
  have SE := Lib.hid (refSeries_any zs a n c w B hR)
  rw [he] at SE
  have hf : (er == 0) = false := by simpa using h0
  have hf2 : (er != 0) = true := by simpa using h0
  clear hR he h0
  go_enter Tryd.func42, Tryd.ntmps42
  go_wp2_with (go_at_call 85; refine SE.out.mono ?_; rintro e w1 ⟨rfl, rfl⟩)
  exact bodyPost_ret (v := .tuple #[.slice none 0 0, .int .i64 er]) (by simp [results, Tryd.results42, go_sem]) rfl ⟨rfl, rfl⟩

set_option maxRecDepth 100000 in
set_option maxHeartbeats 1000000 in
theorem refDamage_err (zs : List Int) (a : Option Addr) (n c : Nat) (a2 : Option Addr) (n2 c2 : Nat) (w : World) (B : Nat) (hR : Rd encInt 1 w B a n zs) (er : Int) (he : seriesE zs = er) (h0 : er ≠ 0) :
    Calls Tryd.prog 44 #[.slice a n c, .slice a2 n2 c2] w fun e w' => e = .returned (.tuple #[.int .i64 0, .int .i64 er]) ∧ w = w' := by
  have SE := Lib.hid (refCycles_err zs a n c w B hR er he h0)
  have hf : (er == 0) = false := by simpa using h0
  have hf2 : (er != 0) = true := by simpa using h0
  clear hR he h0
  go_enter Tryd.func44, Tryd.ntmps44
  go_wp2_with (go_at_call 42; refine SE.out.mono ?_; rintro e w1 ⟨rfl, rfl⟩)
  exact bodyPost_ret (v := .tuple #[.int .i64 0, .int .i64 er]) (by simp [results, Tryd.results44, go_sem]) rfl ⟨rfl, rfl⟩

set_option maxRecDepth 100000 in
set_option maxHeartbeats 1000000 in
theorem refDamage_long (zs : List Int) (a : Option Addr) (n c : Nat) (a2 : Option Addr) (n2 c2 : Nat) (w : World) (B : Nat) (hB : B ≤ w.heap.size) (hR : Rd encInt 1 w B a n zs) (he : seriesE zs = 0) (h8 : 8 < n2) :
    Calls Tryd.prog 44 #[.slice a n c, .slice a2 n2 c2] w fun e w' => e = .returned (.tuple #[.int .i64 0, .int .i64 1]) ∧ Below w.heap.size w w' := by
  obtain ⟨cs, hcs⟩ : ∃ cs, cycP zs = cs := ⟨_, rfl⟩
  obtain ⟨nc, hnc⟩ : ∃ nc, cs.length = nc := ⟨_, rfl⟩
  have SE := Lib.hid (refCycles_q zs a n c w B hB hR cs hcs nc hnc he)
  have h8z : (8 : Int) < (n2 : Int) := by omega
  clear hR he h8 hcs hnc hB
  go_enter Tryd.func44, Tryd.ntmps44
  go_wp2_with (go_at_call 42; refine SE.out.mono ?_; rintro e w1 ⟨a', c', rfl, _, hb⟩)
  exact bodyPost_ret (v := .tuple #[.int .i64 0, .int .i64 1]) (by simp [results, Tryd.results44, go_sem]) rfl ⟨rfl, hb⟩
end Go.Proofs.YtchnhjffpldpiaaDoor
