/- hangar.do, walked: a directive issued. -/
import Derived.Test.YtchnhjffpldpiaaDoorD1
namespace Go.Proofs.YtchnhjffpldpiaaDoor
open Go.RowKit
attribute [local go_sem] eqi_spot eqi_pair gd_spot gd_pair
attribute [local go_sem ↓] Go.wp_at_zero Go.wp_at_succ

variable {w : World} {B : Nat} {L : HL} {H : HS}

theorem orderq {n : Int} {r : Bool} {k : Nat} (h : IsH w B L H) (hf : H.Fit) (hr : H.order n = r) :
    Calls Tryd.prog 84 #[.pointer (some ⟨L.hb, 0, none⟩), .int .i64 n] (w.drewN k) fun e w'' => e = .returned (.bool r) ∧ ∃ m, w'' = w.drewN m :=
  Calls.quiet_of_same ((order_any (h.below (below_drewN (Below.refl _ _) k)) hf n).mono fun _ _ hd => ⟨by rw [← hr]; exact hd.1, hd.2.symm⟩)
theorem partq {n : Int} {r : Bool} {k : Nat} (h : IsH w B L H) (hf : H.Fit) (hr : H.part n = r) :
    Calls Tryd.prog 75 #[.pointer (some ⟨L.hb, 0, none⟩), .int .i64 n] (w.drewN k) fun e w'' => e = .returned (.bool r) ∧ ∃ m, w'' = w.drewN m :=
  Calls.quiet_of_same ((part_any (h.below (below_drewN (Below.refl _ _) k)) hf n).mono fun _ _ hd => ⟨by rw [← hr]; exact hd.1, hd.2.symm⟩)

set_option maxRecDepth 100000 in
set_option maxHeartbeats 2000000 in
theorem do_4 (h : IsH w B L H) (hf : H.Fit) (a b c : Int) :
    Calls Tryd.prog 119 #[.pointer (some ⟨L.hb, 0, none⟩), .agg #[.int .i64 4, .int .i64 a, .int .i64 b, .int .i64 c]] w (Did w B L H (if b = 0 ∧ c = 0 then H.issue a else none)) := by
  by_cases hbc : b = 0 ∧ c = 0
  · obtain ⟨rfl, rfl⟩ := hbc
    rw [if_pos ⟨rfl, rfl⟩]
    cases g : H.order a with
    | false =>
      have hc : H.issue a = none := by simp [HS.issue, g]
      have hb0 : Below w.heap.size w (w.alloc (.cells #[.int .i64 4, .int .i64 a, .int .i64 0, .int .i64 0] 47)) := (Below.refl _ _).alloc (Nat.le_refl _) _
      have K := Lib.hid (fun (k : Nat) => orderq (k := k) (h.below hb0) hf g)
      have HH := Lib.hid (did_no hc h (below_drewN hb0 1))
      have HD := Lib.hid (fun k => did_no hc h (below_drewN hb0 k))
      clear h hf hc hb0
      go_enter Tryd.func119, Tryd.ntmps119
      go_wp2
      go_quiet ((go_at_call 84; exact K.out _))
      go_wp2
      go_ret
      exact HD.out _
    | true =>
      have hi := inB_iff.1 g
      obtain ⟨aa, rfl⟩ : ∃ aa : Nat, a = aa := ⟨a.toNat, by omega⟩
      have haa : aa < H.reg.orders.length := by omega
      have hno := (small_of_valid hf.valid).no
      have hb0 : Below w.heap.size w (w.alloc (.cells #[.int .i64 4, .int .i64 aa, .int .i64 0, .int .i64 0] 47)) := (Below.refl _ _).alloc (Nat.le_refl _) _
      have K := Lib.hid (fun (k : Nat) => orderq (k := k) (h.below hb0) hf g)
      have E : H.issue aa = if H.issued[aa]! = true then none else some { H with issued := H.issued.set aa true } := by
        simp only [HS.issue, g, Bool.true_and, Int.toNat_natCast]
        cases H.issued[aa]! <;> rfl
      have c5 := h.h5
      have ci := h.issued hf aa haa
      have l1 := h.lt .h trivial
      have l2 := h.lt .ib trivial
      have fi := h.frozen .ib trivial aa
      simp only [HL.blk] at l1 l2 fi
      have JB := Lib.hid (h.blocks .ib trivial).2
      have hBw := h.base
      have hz : (aa : Int) < (H.reg.orders.length : Int) := by omega
      have hz0 : (0 : Int) ≤ (aa : Int) := by omega
      have HH := Lib.hid h
      have EE := Lib.hid E
      have HB0 := Lib.hid hb0
      clear h hf g hi haa E hb0
      generalize H.reg.orders.length = no at *
      obtain ⟨is, his⟩ : ∃ is, H.issued[aa]! = is := ⟨_, rfl⟩
      rw [his] at ci
      rw [his] at EE
      clear his
      cases is with
      | true =>
        have hc := EE.out
        rw [if_pos rfl] at hc
        have HD := Lib.hid (fun k => did_no hc HH.out (below_drewN HB0.out k))
        clear hc EE HH HB0
        go_enter Tryd.func119, Tryd.ntmps119
        go_wp2
        go_quiet ((go_at_call 84; exact K.out _))
        go_wp2
        go_ret
        exact HD.out _
      | false =>
        have hc := EE.out
        rw [if_neg (by simp)] at hc
        have HD : Aside (∀ k, Did w B L H (H.issue aa) (.returned (.bool true)) ((((w.alloc (.cells #[.int .i64 4, .int .i64 aa, .int .i64 0, .int .i64 0] 47)).drewN k).drew).setCell ⟨L.ib, aa, none⟩ (.bool true))) := by
          intro k
          rw [hc]
          exact ⟨rfl, ((below_drewN HB0.out k).drew.mono hBw).setCell (p := ⟨L.ib, aa, none⟩) JB.out _, L, rfl, (HH.out.below (below_drewN HB0.out k).drew).putIssued aa true⟩
        clear hc EE HH HB0
        go_enter Tryd.func119, Tryd.ntmps119
        go_wp2
        go_quiet ((go_at_call 84; exact K.out _))
        go_upto_region 18 with (fail)
        refine code_named fun W hW => ?_
        have bW : Below w.heap.size w W := by rw [hW]; exact below_drewN ((Below.refl _ _).alloc (Nat.le_refl _) _) _
        have e5 := (bW.cell (p := ⟨L.hb, 5, none⟩) l1).trans c5
        have ei := (bW.cell (p := ⟨L.ib, aa, none⟩) l2).trans ci
        have ef := (bW.frozen (p := ⟨L.ib, aa, none⟩) l2).trans fi
        have e1 : W.cell? ⟨w.heap.size, 1, none⟩ = some (.int .i64 aa) := by rw [hW]; simp
        have HDW : Aside (Did w B L H (H.issue aa) (.returned (.bool true)) (W.drew.setCell ⟨L.ib, aa, none⟩ (.bool true))) := by
          rw [hW]; exact HD.out _
        clear hW bW c5 ci fi
        go_still_tail 7, (by kernel_rfl)
        change wpList _ _ _ _ _ W.drew
        go_wp2
        go_ret
        exact HDW
  · rw [if_neg hbc]
    have HD := Lib.hid (fun k => did_no (r := none) rfl h (below_drewN ((Below.refl w.heap.size w).alloc (Nat.le_refl _) (.cells #[.int .i64 4, .int .i64 a, .int .i64 b, .int .i64 c] 47)) k))
    clear h hf
    by_cases hb : b = 0
    · subst hb
      have hc : c ≠ 0 := fun e => hbc ⟨rfl, e⟩
      clear hbc
      have hc2 : (c == 0) = false := by simpa using hc
      go_enter Tryd.func119, Tryd.ntmps119
      go_upto_region 16 with (fail)
      try rw [hc2]
      go_quiet (fail)
      go_wp2
      go_ret
      exact HD.out _
    · clear hbc
      have hc2 : (b == 0) = false := by simpa using hb
      go_enter Tryd.func119, Tryd.ntmps119
      go_upto_region 16 with (fail)
      try rw [hc2]
      go_quiet (fail)
      go_wp2
      go_ret
      exact HD.out _
end Go.Proofs.YtchnhjffpldpiaaDoor
