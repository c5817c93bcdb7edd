/- hangar.do, walked: a part scrapped. -/
import Derived.Test.YtchnhjffpldpiaaDoorD2
namespace Go.Proofs.YtchnhjffpldpiaaDoor
open Go.RowKit
attribute [local go_sem] eqi_spot eqi_pair gd_spot gd_pair
attribute [local go_sem ↓] Go.wp_at_zero Go.wp_at_succ

variable {w : World} {B : Nat} {L : HL} {H : HS}

/-- A part's place set in memory. -/
theorem IsH.putSpot (h : IsH w B L H) (k : Nat) (hk : k < H.parts.length) (m p : Int) :
    IsH ((w.setCell ⟨L.pb k, 4, none⟩ (.int .i64 m)).setCell ⟨L.pb k, 5, none⟩ (.int .i64 p)) B L { H with parts := H.parts.set k { H.parts[k]! with im := m, ip := p } } := by
  have J1 := (h.putPart k hk 4 (.int .i64 m) { H.parts[k]! with im := m } rfl rfl rfl)
  have J2 := (J1.putPart k (by rw [HS.setPart_len]; exact hk) 5 (.int .i64 p) { H.parts[k]! with im := m, ip := p } (by rw [HS.setPart_get _ _ _ _ hk, if_pos rfl]; rfl) (by rw [HS.setPart_get _ _ _ _ hk, if_pos rfl]) (by rw [HS.setPart_get _ _ _ _ hk, if_pos rfl]))
  refine J2.cong ?_
  simp only [HS.setPart, List.set_set]

set_option maxRecDepth 100000 in
set_option maxHeartbeats 2000000 in
theorem do_6 (h : IsH w B L H) (hf : H.Fit) (a b c : Int) :
    Calls Tryd.prog 119 #[.pointer (some ⟨L.hb, 0, none⟩), .agg #[.int .i64 6, .int .i64 a, .int .i64 b, .int .i64 c]] w (Did w B L H (if b = 0 ∧ c = 0 then H.scrap a else none)) := by
  by_cases hbc : b = 0 ∧ c = 0
  · obtain ⟨rfl, rfl⟩ := hbc
    rw [if_pos ⟨rfl, rfl⟩]
    cases g : H.part a with
    | false =>
      have hc : H.scrap a = none := by simp [HS.scrap, g]
      have hb0 : Below w.heap.size w (w.alloc (.cells #[.int .i64 6, .int .i64 a, .int .i64 0, .int .i64 0] 47)) := (Below.refl _ _).alloc (Nat.le_refl _) _
      have K := Lib.hid (fun (k : Nat) => partq (k := k) (h.below hb0) hf g)
      have HD := Lib.hid (fun k => did_no hc h (below_drewN hb0 k))
      clear h hf hc hb0
      go_enter Tryd.func119, Tryd.ntmps119
      go_wp2
      go_quiet ((go_at_call 75; exact K.out _))
      go_wp2
      go_ret
      exact HD.out _
    | true =>
      have hi := inB_iff.1 g
      obtain ⟨nn, rfl⟩ : ∃ nn : Nat, a = nn := ⟨a.toNat, by omega⟩
      have hnn : nn < H.parts.length := by omega
      have hs := small_of_valid hf.valid
      have hnp : H.parts.length ≤ 24 := by rw [hf.parts]; exact hs.np
      have hb0 : Below w.heap.size w (w.alloc (.cells #[.int .i64 6, .int .i64 nn, .int .i64 0, .int .i64 0] 47)) := (Below.refl _ _).alloc (Nat.le_refl _) _
      have K := Lib.hid (fun (k : Nat) => partq (k := k) (h.below hb0) hf g)
      have E : H.scrap nn = if (H.parts[nn]!).im == -1 && (H.parts[nn]!).ip == -1 then some { H with parts := H.parts.set nn { H.parts[nn]! with im := -2, ip := -2 } } else none := by
        simp only [HS.scrap, g, Bool.true_and, Int.toNat_natCast]
      obtain ⟨pv, pcc, hv, hpa⟩ := partsV_eq L H.parts.length
      obtain rfl := hpa (by omega)
      have c4 := h.h4
      rw [hv] at c4
      have hgl := h.glb.lt
      have s0 := h.glb.s0
      have s1 := h.glb.s1
      have t0 := h.glb.c0
      have t1 := h.glb.c1
      have hBw := h.base
      have lg0 : 1 < w.heap.size := by omega
      have lg1 : 0 < w.heap.size := by omega
      have l1 := h.lt .h trivial
      have l2 := h.ltp nn hnn
      have l3 := h.lt .pr (by show 0 < _; omega)
      simp only [HL.blk] at l1 l3
      have q := h.prow nn hnn
      have q4 := h.p4 hnn
      have q5 := h.p5 hnn
      have f4 := h.frp nn hnn 4
      have f5 := h.frp nn hnn 5
      have JB := Lib.hid (h.blocks (.part nn) hnn).2
      have hz : (nn : Int) < (H.parts.length : Int) := by omega
      have hz0 : (0 : Int) ≤ (nn : Int) := by omega
      have HH := Lib.hid h
      have EE := Lib.hid E
      have HB0 := Lib.hid hb0
      have HNN := Lib.hid hnn
      clear h hf g hi hnn E hb0 hs hv hpa
      obtain ⟨im, him⟩ : ∃ im, (H.parts[nn]!).im = im := ⟨_, rfl⟩
      obtain ⟨ip, hip⟩ : ∃ ip, (H.parts[nn]!).ip = ip := ⟨_, rfl⟩
      rw [him] at q4
      rw [hip] at q5
      rw [him, hip] at EE
      clear him hip
      have P9 : ∀ W, Below w.heap.size w W → Aside (IsH ((W.setCell ⟨L.pb nn, 4, none⟩ (.int .i64 (-2))).setCell ⟨L.pb nn, 5, none⟩ (.int .i64 (-2))) B L { H with parts := H.parts.set nn { H.parts[nn]! with im := -2, ip := -2 } }) := fun W hW => (HH.out.below hW).putSpot nn HNN.out _ _
      have P9' := Lib.hid P9
      clear P9
      generalize H.parts.length = np at *
      by_cases hst : im = -1 ∧ ip = -1
      · obtain ⟨rfl, rfl⟩ := hst
        have hc := EE.out
        rw [if_pos (by rfl)] at hc
        have HC := Lib.hid hc
        clear hc EE
        go_enter Tryd.func119, Tryd.ntmps119
        go_upto_region 20 with (fail)
        go_quiet ((go_at_call 75; exact K.out _))
        go_upto_region 22 with (fail)
        refine code_named fun W hW => ?_
        have bW : Below w.heap.size w W := by rw [hW]; exact below_drewN ((Below.refl _ _).alloc (Nat.le_refl _) _) _
        have e4 := (bW.cell (p := ⟨L.hb, 4, none⟩) l1).trans c4
        have eq' := (bW.cell (p := ⟨L.pr, nn, none⟩) l3).trans q
        have eq4 := (bW.cell (p := ⟨L.pb nn, 4, none⟩) l2).trans q4
        have eq5 := (bW.cell (p := ⟨L.pb nn, 5, none⟩) l2).trans q5
        have ef4 := (bW.frozen (p := ⟨L.pb nn, 4, none⟩) l2).trans f4
        have ef5 := (bW.frozen (p := ⟨L.pb nn, 5, none⟩) l2).trans f5
        have et0 := (bW.cell (p := ⟨0, 0, none⟩) lg1).trans t0
        have et1 := (bW.cell (p := ⟨0, 1, none⟩) lg1).trans t1
        have e1 : W.cell? ⟨w.heap.size, 1, none⟩ = some (.int .i64 nn) := by rw [hW]; simp
        have HDW : Aside (Did w B L H (H.scrap nn) (.returned (.bool true)) ((W.drew.setCell ⟨L.pb nn, 4, none⟩ (.int .i64 (-2))).setCell ⟨L.pb nn, 5, none⟩ (.int .i64 (-2)))) := by
          have hc := HC.out
          show Did _ _ _ _ _ _ _
          rw [hc]
          exact ⟨rfl, ((bW.drew.mono hBw).setCell (p := ⟨L.pb nn, 4, none⟩) JB.out _).setCell (p := ⟨L.pb nn, 5, none⟩) JB.out _, L, rfl, P9'.out _ bW.drew⟩
        have HWA := Lib.hid hW
        clear hW bW c4 q q4 q5 f4 f5 t0 t1 s0 s1
        go_still_tail 11, (by kernel_rfl)
        change wpList _ _ _ _ _ W.drew
        go_wp2
        go_ret
        exact HDW
      · have hb : (im == -1 && ip == -1) = false := by
          rw [Bool.and_eq_false_iff]
          simp only [beq_eq_false_iff_ne]
          omega
        have hc := EE.out
        rw [hb, if_neg (by simp)] at hc
        have HD := Lib.hid (fun k => did_no hc HH.out (below_drewN HB0.out k))
        clear hc EE HH HB0 P9'
        go_enter Tryd.func119, Tryd.ntmps119
        go_upto_region 20 with (fail)
        go_quiet ((go_at_call 75; exact K.out _))
        go_wp2
        go_ret
        exact HD.out _
  · rw [if_neg hbc]
    have HD := Lib.hid (fun k => did_no (r := none) rfl h (below_drewN ((Below.refl w.heap.size w).alloc (Nat.le_refl _) (.cells #[.int .i64 6, .int .i64 a, .int .i64 b, .int .i64 c] 47)) k))
    clear h hf
    by_cases hb : b = 0
    · subst hb
      have hc : c ≠ 0 := fun e => hbc ⟨rfl, e⟩
      clear hbc
      have hc2 : (c == 0) = false := by simpa using hc
      go_enter Tryd.func119, Tryd.ntmps119
      go_upto_region 20 with (fail)
      go_quiet (fail)
      go_wp2
      go_ret
      exact HD.out _
    · clear hbc
      have hc2 : (b == 0) = false := by simpa using hb
      go_enter Tryd.func119, Tryd.ntmps119
      go_upto_region 20 with (fail)
      go_quiet (fail)
      go_wp2
      go_ret
      exact HD.out _
end Go.Proofs.YtchnhjffpldpiaaDoor
