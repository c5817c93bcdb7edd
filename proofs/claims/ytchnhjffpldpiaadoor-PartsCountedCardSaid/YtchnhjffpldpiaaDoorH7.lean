/- hangar.check, walked. -/
import Derived.Test.YtchnhjffpldpiaaDoorH6
namespace Go.Proofs.YtchnhjffpldpiaaDoor
open Go.RowKit
attribute [local go_sem] eqi_spot eqi_pair gd_spot gd_pair
attribute [local go_sem ↓] Go.wp_at_zero Go.wp_at_succ

variable {w : World} {B : Nat} {L : HL} {H : HS}

set_option maxRecDepth 100000 in
set_option maxHeartbeats 2000000 in
theorem check_any (h : IsH w B L H) (hf : H.Fit) (n o : Int) :
    Calls Tryd.prog 145 #[.pointer (some ⟨L.hb, 0, none⟩), .int .i64 n, .int .i64 o] w fun e w' =>
      e = .returned (.bool (H.check n o).isSome) ∧ Below B w w' ∧ IsH w' B L ((H.check n o).getD H) := by
  have K1 := Lib.hid (part_any h hf n)
  have K2 := Lib.hid (order_any h hf o)
  have hBw := h.base
  cases g1 : H.part n with
  | false =>
    have hc : H.check n o = none := by simp [HS.check, checkGuard, g1]
    rw [hc]
    rw [g1] at K1
    have HH := Lib.hid h
    clear h hf hc
    go_enter Tryd.func145, Tryd.ntmps145
    go_wp2_with (first | (go_at_call 75; refine K1.out.mono ?_; rintro e w' ⟨rfl, rfl⟩))
    go_ret
    exact ⟨rfl, Below.refl _ _, HH.out⟩
  | true =>
    cases g2 : H.order o with
    | false =>
      have hc : H.check n o = none := by simp [HS.check, checkGuard, g2]
      rw [hc]
      rw [g1] at K1
      rw [g2] at K2
      have HH := Lib.hid h
      clear h hf hc
      go_enter Tryd.func145, Tryd.ntmps145
      go_wp2_with (first | (go_at_call 75; refine K1.out.mono ?_; rintro e w' ⟨rfl, rfl⟩) | (go_at_call 84; refine K2.out.mono ?_; rintro e w' ⟨rfl, rfl⟩))
      go_ret
      exact ⟨rfl, Below.refl _ _, HH.out⟩
    | true =>
      have hi1 := inB_iff.1 g1
      have hi2 := inB_iff.1 g2
      obtain ⟨nn, rfl⟩ : ∃ nn : Nat, n = nn := ⟨n.toNat, by omega⟩
      obtain ⟨oo, rfl⟩ : ∃ oo : Nat, o = oo := ⟨o.toNat, by omega⟩
      have hnn : nn < H.parts.length := by omega
      have hoo : oo < H.reg.orders.length := by omega
      have hs := small_of_valid hf.valid
      have hno := hs.no
      have hnp : H.parts.length ≤ 24 := by rw [hf.parts]; exact hs.np
      rw [g1] at K1
      rw [g2] at K2
      have E : H.check nn oo = if H.issued[oo]! && ((H.parts[nn]!).kind == (H.reg.orders[oo]!).kind && !(H.parts[nn]!).chk[oo]!) then some (H.setPart nn { H.parts[nn]! with chk := (H.parts[nn]!).chk.set oo true }) else none := by
        simp only [HS.check, checkGuard, g1, g2, Bool.true_and, Int.toNat_natCast]
        rfl
      obtain ⟨pv, pcc, hv, hpa⟩ := partsV_eq L H.parts.length
      obtain rfl := hpa (by omega)
      have c4 := h.h4
      rw [hv] at c4
      have c5 := h.h5
      have c3 := h.h3
      have i5 := h.issued hf oo hoo
      have q := h.prow nn hnn
      have q0 := h.p0 hnn
      have q7 := h.p7 hnn
      have cc := h.chk hf nn hnn oo hoo
      have fc : w.frozen? ⟨L.cb nn, oo, none⟩ = false := h.frozen (.chk nn) hnn oo
      obtain ⟨ob, ooff, hoa, hoc⟩ := h.reg.orders.ex
      obtain ⟨hoa, hob⟩ := hoa (by omega)
      have o0 := hoc oo hoo 0 _ rfl
      rw [Nat.add_zero] at o0
      rw [hoa] at c3
      have hoz : (oo : Int) < (H.reg.orders.length : Int) := by omega
      have ho0 : (0 : Int) ≤ (oo : Int) := by omega
      have hnz : (nn : Int) < (H.parts.length : Int) := by omega
      have hn0 : (0 : Int) ≤ (nn : Int) := by omega
      have J := Lib.hid (fun (W : World) (hW : Below w.heap.size w W) => (h.below hW).putChk nn hnn oo true)
      have HBC := Lib.hid (h.blocks (.chk nn) hnn).2
      have HH := Lib.hid h
      have EE := Lib.hid E
      clear h hf E g1 g2 hi1 hi2 hs hv hpa hoc hoa hob hnn hoo
      generalize H.reg.orders[oo]! = ord at *
      obtain ⟨okd, owi⟩ := ord
      simp only at o0
      obtain ⟨pk, hpk⟩ : ∃ x, (H.parts[nn]!).kind = x := ⟨_, rfl⟩
      obtain ⟨pc, hpc⟩ : ∃ x, (H.parts[nn]!).chk[oo]! = x := ⟨_, rfl⟩
      obtain ⟨is, his⟩ : ∃ x, H.issued[oo]! = x := ⟨_, rfl⟩
      rw [hpk] at q0
      rw [hpc] at cc
      rw [his] at i5
      rw [hpk, hpc, his] at EE
      clear hpk hpc his
      generalize H.reg.orders.length = no at *
      generalize H.parts.length = np at *
      cases is with
      | false =>
        go_enter Tryd.func145, Tryd.ntmps145
        go_wp2_with (first | (go_at_call 75; refine K1.out.mono ?_; rintro e w' ⟨rfl, rfl⟩) | (go_at_call 84; refine K2.out.mono ?_; rintro e w' ⟨rfl, rfl⟩))
        go_ret
        rw [EE.out]
        exact ⟨rfl, Below.refl _ _, HH.out⟩
      | true =>
        by_cases hk : pk = okd
        · subst hk
          cases pc with
          | true =>
            have EF : Aside (H.check nn oo = none) := by
              show _ = _
              rw [EE.out]; simp
            clear EE
            go_enter Tryd.func145, Tryd.ntmps145
            go_wp2_with (first | (go_at_call 75; refine K1.out.mono ?_; rintro e w' ⟨rfl, rfl⟩) | (go_at_call 84; refine K2.out.mono ?_; rintro e w' ⟨rfl, rfl⟩))
            go_quiet (fail)
            go_wp2
            go_ret
            rw [EF.out]
            exact ⟨rfl, below_drewN (Below.refl _ _) _, HH.out.below (below_drewN (Below.refl _ _) _)⟩
          | false =>
            have EF : Aside (H.check nn oo = some (H.setPart nn { H.parts[nn]! with chk := (H.parts[nn]!).chk.set oo true })) := by
              show _ = _
              rw [EE.out]; simp
            clear EE
            go_enter Tryd.func145, Tryd.ntmps145
            go_wp2_with (first | (go_at_call 75; refine K1.out.mono ?_; rintro e w' ⟨rfl, rfl⟩) | (go_at_call 84; refine K2.out.mono ?_; rintro e w' ⟨rfl, rfl⟩))
            go_quiet (fail)
            go_wp2
            go_ret
            rw [EF.out]
            refine ⟨rfl, ?_, ?_⟩
            · exact (below_drewN (Below.refl _ _) _).setCell (p := ⟨L.cb nn, oo, none⟩) HBC.out _
            · exact J.out _ (below_drewN (Below.refl _ _) _)
        · have hkb : (pk == okd) = false := by simpa using hk
          have hkn : (pk != okd) = true := by simpa using hk
          have hkd : decide (pk = okd) = false := by simpa using hk
          have EF : Aside (H.check nn oo = none) := by
            show _ = _
            rw [EE.out]; simp [hk]
          clear EE
          go_enter Tryd.func145, Tryd.ntmps145
          go_wp2_with (first | (go_at_call 75; refine K1.out.mono ?_; rintro e w' ⟨rfl, rfl⟩) | (go_at_call 84; refine K2.out.mono ?_; rintro e w' ⟨rfl, rfl⟩))
          go_quiet (fail)
          go_wp2
          go_ret
          rw [EF.out]
          exact ⟨rfl, below_drewN (Below.refl _ _) _, HH.out.below (below_drewN (Below.refl _ _) _)⟩
end Go.Proofs.YtchnhjffpldpiaaDoor
