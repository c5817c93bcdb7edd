/- hangar.do, walked: a part taken out; and all works together. -/
import Derived.Test.YtchnhjffpldpiaaDoorD3
import Derived.Test.YtchnhjffpldpiaaDoorFit
namespace Go.Proofs.YtchnhjffpldpiaaDoor
open Go.RowKit
attribute [local go_sem] eqi_spot eqi_pair gd_spot gd_pair
attribute [local go_sem ↓] Go.wp_at_zero Go.wp_at_succ

variable {w : World} {B : Nat} {L : HL} {H : HS}

set_option maxRecDepth 100000 in
set_option maxHeartbeats 2000000 in
theorem do_3 (h : IsH w B L H) (hf : H.Fit) (a b c : Int) :
    Calls Tryd.prog 119 #[.pointer (some ⟨L.hb, 0, none⟩), .agg #[.int .i64 3, .int .i64 a, .int .i64 b, .int .i64 c]] w (Did w B L H (if b = 0 ∧ c = 0 then H.take a else none)) := by
  by_cases hbc : b = 0 ∧ c = 0
  · obtain ⟨rfl, rfl⟩ := hbc
    rw [if_pos ⟨rfl, rfl⟩]
    cases g : H.part a with
    | false =>
      have hc : H.take a = none := by simp [HS.take, g]
      have hb0 : Below w.heap.size w (w.alloc (.cells #[.int .i64 3, .int .i64 a, .int .i64 0, .int .i64 0] 47)) := (Below.refl _ _).alloc (Nat.le_refl _) _
      have K := Lib.hid (fun (k : Nat) => partq (k := k) (h.below hb0) hf g)
      have HD := Lib.hid (fun k => did_no hc h (below_drewN hb0 k))
      clear h hf hc hb0
      go_enter Tryd.func119, Tryd.ntmps119
      go_wp2
      go_quiet ((go_at_call 75; exact K.out _))
      go_wp2
      go_ret
      exact HD.out _
    | true =>
      have hi := inB_iff.1 g
      obtain ⟨nn, rfl⟩ : ∃ nn : Nat, a = nn := ⟨a.toNat, by omega⟩
      have hnn : nn < H.parts.length := by omega
      have hs := small_of_valid hf.valid
      have hnp : H.parts.length ≤ 24 := by rw [hf.parts]; exact hs.np
      have hb0 : Below w.heap.size w (w.alloc (.cells #[.int .i64 3, .int .i64 nn, .int .i64 0, .int .i64 0] 47)) := (Below.refl _ _).alloc (Nat.le_refl _) _
      have K := Lib.hid (fun (k : Nat) => partq (k := k) (h.below hb0) hf g)
      have E : H.take nn = if 0 ≤ (H.parts[nn]!).im then some { H with parts := H.parts.set nn { H.parts[nn]! with im := -1, ip := -1 }, hist := H.hist.set nn (endLast H.flown H.works H.hist[nn]!) } else none := by
        simp only [HS.take, g, Bool.true_and, Int.toNat_natCast, decide_eq_true_eq]
      obtain ⟨pv, pcc, hv, hpa⟩ := partsV_eq L H.parts.length
      obtain rfl := hpa (by omega)
      have c4 := h.h4
      rw [hv] at c4
      have c7 := h.h7
      have c8 := h.h8
      have hgl := h.glb.lt
      have s0 := h.glb.s0
      have s1 := h.glb.s1
      have hBw := h.base
      have lg0 : 1 < w.heap.size := by omega
      have l1 := h.lt .h trivial
      have l2 := h.ltp nn hnn
      have l3 := h.lt .pr (by show 0 < _; omega)
      have l4 := h.lt .hr trivial
      simp only [HL.blk] at l1 l3 l4
      have q := h.prow nn hnn
      have q4 := h.p4 hnn
      have q5 := h.p5 hnn
      have f4 := h.frp nn hnn 4
      have f5 := h.frp nn hnn 5
      have JB := Lib.hid (h.blocks (.part nn) hnn).2
      have hz : (nn : Int) < (H.parts.length : Int) := by omega
      have hz0 : (0 : Int) ≤ (nn : Int) := by omega
      have HH := Lib.hid h
      have HF := Lib.hid hf
      have EE := Lib.hid E
      have HB0 := Lib.hid hb0
      have HNN := Lib.hid hnn
      have HM := hs.m0
      clear h hf g hi hnn E hb0 hs hv hpa
      obtain ⟨im, him⟩ : ∃ im, (H.parts[nn]!).im = im := ⟨_, rfl⟩
      obtain ⟨ip, hip⟩ : ∃ ip, (H.parts[nn]!).ip = ip := ⟨_, rfl⟩
      rw [him] at q4
      rw [hip] at q5
      rw [him] at EE
      have HIM := Lib.hid him
      clear him hip
      by_cases hst : 0 ≤ im
      · have hc := EE.out
        rw [if_pos hst] at hc
        have HC := Lib.hid hc
        clear hc EE
        have hne := HF.out.open' nn HNN.out (by rw [HIM.out]; exact hst)
        obtain ⟨n, hn⟩ : ∃ n, (H.hist[nn]!).length = n + 1 := ⟨(H.hist[nn]!).length - 1, by have := List.length_pos_iff.2 hne; omega⟩
        have hV : histV L H.hist[nn]! nn = .slice (some ⟨L.gb nn, 0, none⟩) (n + 1) (L.gcap nn) := by unfold histV; rw [if_neg hne, hn]
        have hst2 : ¬ im < 0 := by omega
        clear hne
        -- behind the store
        have P9 : ∀ W, Below w.heap.size w W → Aside (IsH ((W.setCell ⟨L.pb nn, 4, none⟩ (.int .i64 (-1))).setCell ⟨L.pb nn, 5, none⟩ (.int .i64 (-1))) B L { H with parts := H.parts.set nn { H.parts[nn]! with im := -1, ip := -1 } }) := fun W hW => (HH.out.below hW).putSpot nn HNN.out _ _
        have F9 := HF.out.spotTo nn HNN.out (-1) (-1) (by omega) (by omega) (by omega)
        have P8 : ∀ W2, IsH W2 B L { H with parts := H.parts.set nn { H.parts[nn]! with im := -1, ip := -1 } } → Aside (Calls Tryd.prog 79 #[.pointer (some ⟨L.hb, 0, none⟩), .slice (some ⟨L.gb nn, 0, none⟩) (n + 1) (L.gcap nn), .int .i64 H.works] W2 fun e w' => e = .returned (.tuple #[]) ∧ Below B W2 w' ∧
            IsH w' B L { H with parts := H.parts.set nn { H.parts[nn]! with im := -1, ip := -1 }, hist := H.hist.set nn (endLast H.flown H.works H.hist[nn]!) }) :=
          fun W2 h2 => end_any h2 F9 nn (by show nn < (H.parts.set nn _).length; rw [List.length_set]; exact HNN.out) n hn H.works
        have V8 := Lib.hid (fun (W2 : World) (h2 : IsH W2 B L { H with parts := H.parts.set nn { H.parts[nn]! with im := -1, ip := -1 } }) => (h2.hrc nn (by show nn < (H.parts.set nn _).length; rw [List.length_set]; exact HNN.out)).trans (congrArg some hV))
        have V7 := Lib.hid (fun (W2 : World) (h2 : IsH W2 B L { H with parts := H.parts.set nn { H.parts[nn]! with im := -1, ip := -1 } }) => h2.h7)
        have V6 := Lib.hid (fun (W2 : World) (h2 : IsH W2 B L { H with parts := H.parts.set nn { H.parts[nn]! with im := -1, ip := -1 } }) => h2.h8)
        have P9' := Lib.hid P9
        have P8' := Lib.hid P8
        clear P9 P8 F9 hV hn
        simp only [List.length_set] at V6
        generalize H.parts.length = np at *
        generalize hwk : H.works = wk at *
        go_enter Tryd.func119, Tryd.ntmps119
        go_upto_region 11 with (fail)
        go_quiet ((go_at_call 75; exact K.out _))
        go_upto_region 13 with (fail)
        refine code_named fun W hW => ?_
        have bW : Below w.heap.size w W := by rw [hW]; exact below_drewN ((Below.refl _ _).alloc (Nat.le_refl _) _) _
        have e4 := (bW.cell (p := ⟨L.hb, 4, none⟩) l1).trans c4
        have eq' := (bW.cell (p := ⟨L.pr, nn, none⟩) l3).trans q
        have eq4 := (bW.cell (p := ⟨L.pb nn, 4, none⟩) l2).trans q4
        have eq5 := (bW.cell (p := ⟨L.pb nn, 5, none⟩) l2).trans q5
        have ef4 := (bW.frozen (p := ⟨L.pb nn, 4, none⟩) l2).trans f4
        have ef5 := (bW.frozen (p := ⟨L.pb nn, 5, none⟩) l2).trans f5
        have et0 := (bW.cell (p := ⟨1, 0, none⟩) lg0).trans s0
        have et1 := (bW.cell (p := ⟨1, 1, none⟩) lg0).trans s1
        have e1 : W.cell? ⟨w.heap.size, 1, none⟩ = some (.int .i64 nn) := by rw [hW]; simp
        have I2 := P9'.out _ bW.drew
        have B2 := ((bW.drew.mono hBw).setCell (p := ⟨L.pb nn, 4, none⟩) JB.out (.int .i64 (-1))).setCell (p := ⟨L.pb nn, 5, none⟩) JB.out (.int .i64 (-1))
        have d1 : ((W.drew.setCell ⟨L.pb nn, 4, none⟩ (.int .i64 (-1))).setCell ⟨L.pb nn, 5, none⟩ (.int .i64 (-1))).cell? ⟨w.heap.size, 1, none⟩ = some (.int .i64 nn) := by
          have hne4 : (⟨w.heap.size, 1, none⟩ : Addr) ≠ ⟨L.pb nn, 4, none⟩ := by intro e; have := congrArg Addr.block e; simp only at this; omega
          have hne5 : (⟨w.heap.size, 1, none⟩ : Addr) ≠ ⟨L.pb nn, 5, none⟩ := by intro e; have := congrArg Addr.block e; simp only at this; omega
          exact (World.cell?_setCell_other (h := Ne.symm hne5) ..).trans ((World.cell?_setCell_other (h := Ne.symm hne4) ..).trans e1)
        have I2' := Lib.hid I2
        have B2' := Lib.hid B2
        clear hW bW c4 q q4 q5 f4 f5 s0 s1 I2 B2
        go_still_tail 11, (by kernel_rfl)
        change wpList _ _ _ _ _ W.drew
        go_upto_region 14 with (fail)
        refine code_named fun W2 hW2 => ?_
        have d2 : W2.cell? ⟨w.heap.size, 1, none⟩ = some (.int .i64 nn) := by rw [hW2]; exact d1
        clear d1
        have i2 : IsH W2 B L { H with parts := H.parts.set nn { H.parts[nn]! with im := -1, ip := -1 }, works := wk } := by rw [hW2]; exact I2'.out
        have b2 : Below B w W2 := by rw [hW2]; exact B2'.out
        have v8 := V8.out W2 i2
        have v7 := V7.out W2 i2
        have v6 := V6.out W2 i2
        have P7 := Lib.hid (P8'.out W2.drew i2.drew)
        have b2' := Lib.hid b2
        clear hW2 i2 b2 V8 V7 V6 P8' P9' I2' B2' e4 eq' eq4 eq5 ef4 ef5 et0 et1 e1
        go_still_tail 13, (by kernel_rfl)
        change wpList _ _ _ _ _ W2.drew
        go_wp2_with (first | (go_at_call 79; refine P7.out.mono ?_; rintro e w' ⟨rfl, hb9, hi9⟩))
        have hb8 := Lib.hid hb9
        have hi8 := Lib.hid hi9
        clear hb9 hi9
        go_wp2
        go_ret
        rw [HC.out]
        exact ⟨rfl, b2'.out.drew.trans hb8.out, L, rfl, hi8.out⟩
      · have hst2 : im < 0 := by omega
        have hc := EE.out
        rw [if_neg hst] at hc
        have HD := Lib.hid (fun k => did_no hc HH.out (below_drewN HB0.out k))
        clear hc EE HH HB0 HF
        generalize H.parts.length = np at *
        go_enter Tryd.func119, Tryd.ntmps119
        go_upto_region 11 with (fail)
        go_quiet ((go_at_call 75; exact K.out _))
        go_wp2
        go_ret
        exact HD.out _
  · rw [if_neg hbc]
    have HD := Lib.hid (fun k => did_no (r := none) rfl h (below_drewN ((Below.refl w.heap.size w).alloc (Nat.le_refl _) (.cells #[.int .i64 3, .int .i64 a, .int .i64 b, .int .i64 c] 47)) k))
    clear h hf
    by_cases hb : b = 0
    · subst hb
      have hc : c ≠ 0 := fun e => hbc ⟨rfl, e⟩
      clear hbc
      have hc2 : (c == 0) = false := by simpa using hc
      go_enter Tryd.func119, Tryd.ntmps119
      go_upto_region 11 with (fail)
      go_quiet (fail)
      go_wp2
      go_ret
      exact HD.out _
    · clear hbc
      have hc2 : (b == 0) = false := by simpa using hb
      go_enter Tryd.func119, Tryd.ntmps119
      go_upto_region 11 with (fail)
      go_quiet (fail)
      go_wp2
      go_ret
      exact HD.out _

/-- **hangar.do, whatever the work.** -/
theorem do_any (h : IsH w B L H) (hf : H.Fit) (x : WorkR) :
    Calls Tryd.prog 119 #[.pointer (some ⟨L.hb, 0, none⟩), .agg #[.int .i64 x.kind, .int .i64 x.a, .int .i64 x.b, .int .i64 x.c]] w (Did w B L H (H.doWork x)) := by
  obtain ⟨k, a, b, c⟩ := x
  simp only [HS.doWork]
  by_cases h1 : k = 1
  · subst h1; exact do_1 h hf a b c
  rw [if_neg h1]
  by_cases h2 : k = 2
  · subst h2; exact do_2 h hf a b c
  rw [if_neg h2]
  by_cases h5 : k = 5
  · subst h5; exact do_5 h hf a b c
  rw [if_neg h5]
  by_cases h3 : k = 3
  · subst h3; exact do_3 h hf a b c
  rw [if_neg h3]
  by_cases h4 : k = 4
  · subst h4; exact do_4 h hf a b c
  rw [if_neg h4]
  by_cases h6 : k = 6
  · subst h6; exact do_6 h hf a b c
  rw [if_neg h6]
  exact do_other h k a b c h1 h2 h3 h4 h5 h6
end Go.Proofs.YtchnhjffpldpiaaDoor
