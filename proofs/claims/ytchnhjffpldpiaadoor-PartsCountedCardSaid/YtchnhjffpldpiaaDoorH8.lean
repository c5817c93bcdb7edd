/- hangar.fit, walked. -/
import Derived.Test.YtchnhjffpldpiaaDoorH7
import Derived.Test.YtchnhjffpldpiaaDoorMem3
import Derived.Deep.DeepCutAuto
import Derived.Deep.AppendLies
import Derived.StillTailTactics
import Derived.Test.YtchnhjffpldpiaaDoorBel
import Derived.Test.YtchnhjffpldpiaaDoorLast
namespace Go.Proofs.YtchnhjffpldpiaaDoor
open Go.RowKit
attribute [local go_sem] eqi_spot eqi_pair gd_spot gd_pair
attribute [local go_sem ↓] Go.wp_at_zero Go.wp_at_succ

variable {w : World} {B : Nat} {L : HL} {H : HS}

theorem info_stretch : ((Tryd.prog).info? 61).map (fun i => (i.zero, i.size, i.bytes)) = some (some (.agg #[.int .i64 0, .int .i64 0, .int .i64 0, .int .i64 0, .int .i64 0, .int .i64 0]), 6, 48) := by kernel_rfl

theorem IsH.own_ne (h : IsH w B L H) (k : Nat) (hk : k < H.parts.length) (s : Slot) (hs : okSlot H s) (hne : s ≠ .hist k) : (histV L H.hist[k]! k).ownBlock ≠ some (L.blk s) := by
  unfold histV
  split
  · simp [Value.ownBlock]
  · rename_i he
    simp only [Value.ownBlock, ne_eq, Option.some.injEq]
    intro e
    exact hne (h.inj s (.hist k) hs ⟨hk, he⟩ e.symm)

/-- What a work leaves: whether it was possible, and the hangar behind it. -/
def Did (w : World) (B : Nat) (L : HL) (H : HS) (r : Option HS) (e : Ending) (w' : World) : Prop :=
  e = .returned (.bool r.isSome) ∧ Below B w w' ∧ ∃ L', L'.hb = L.hb ∧ IsH w' B L' (r.getD H)

theorem did_no {r : Option HS} (hr : r = none) (h : IsH w B L H) {w' : World} (hb : Below w.heap.size w w') : Did w B L H r (.returned (.bool false)) w' := by
  subst hr
  exact ⟨rfl, hb.mono h.base, L, rfl, h.below hb⟩

theorem within_q (n lo hi : Int) (r : Bool) (h : inB n lo hi = r) (w : World) :
    Calls Tryd.prog 66 #[.int .i64 n, .int .i64 lo, .int .i64 hi] w fun e w' => e = .returned (.bool r) ∧ w' = w :=
  (within_any n lo hi w).mono fun _ _ hh => ⟨by rw [← h]; exact hh.1, hh.2.symm⟩

theorem within_r (n lo hi : Int) (r : Bool) (h : inB n lo hi = r) (w : World) :
    Calls Tryd.prog 66 #[.int .i64 n, .int .i64 lo, .int .i64 hi] w fun e w' => e = .returned (.bool r) ∧ w = w' :=
  (within_any n lo hi w).mono fun _ _ hh => ⟨by rw [← h]; exact hh.1, hh.2⟩

set_option maxRecDepth 100000 in
set_option maxHeartbeats 1000000 in
theorem fit_any (h : IsH w B L H) (hf : H.Fit) (n m pl : Int) :
    Calls Tryd.prog 144 #[.pointer (some ⟨L.hb, 0, none⟩), .int .i64 n, .int .i64 m, .int .i64 pl] w (Did w B L H (H.fit n m pl)) := by
  have K1 := Lib.hid (part_any h hf n)
  have K2 := Lib.hid (machine_any h hf m)
  have hBw := h.base
  cases g1 : H.part n with
  | false =>
    have hc : H.fit n m pl = none := by simp [HS.fit, fitGuard, g1]
    have HC := Lib.hid hc
    rw [g1] at K1
    have HH := Lib.hid h
    clear h hf hc
    go_enter Tryd.func144, Tryd.ntmps144
    go_wp2_with (first | (go_at_call 75; refine K1.out.mono ?_; rintro e w' ⟨rfl, rfl⟩))
    go_ret
    exact did_no HC.out HH.out (Below.refl _ _)
  | true =>
    cases g2 : H.machine m with
    | false =>
      have hc : H.fit n m pl = none := by simp [HS.fit, fitGuard, g2]
      have HC := Lib.hid hc
      rw [g1] at K1
      rw [g2] at K2
      have HH := Lib.hid h
      clear h hf hc
      go_enter Tryd.func144, Tryd.ntmps144
      go_wp2_with (first | (go_at_call 75; refine K1.out.mono ?_; rintro e w' ⟨rfl, rfl⟩) | (go_at_call 65; refine K2.out.mono ?_; rintro e w' ⟨rfl, rfl⟩))
      go_ret
      exact did_no HC.out HH.out (Below.refl _ _)
    | true =>
      have hi1 := inB_iff.1 g1
      have hi2 := inB_iff.1 g2
      obtain ⟨nn, rfl⟩ : ∃ nn : Nat, n = nn := ⟨n.toNat, by omega⟩
      obtain ⟨mm, rfl⟩ : ∃ mm : Nat, m = mm := ⟨m.toNat, by omega⟩
      have hnn : nn < H.parts.length := by omega
      have hmm : mm < H.flown.length := by have := hf.flown; omega
      have hs := small_of_valid hf.valid
      have hm4 := hs.m1
      have hnp : H.parts.length ≤ 24 := by rw [hf.parts]; exact hs.np
      rw [g1] at K1
      rw [g2] at K2
      have hkd := hf.kind0 nn hnn
      have hnk := hs.nk
      obtain ⟨kn, hkn⟩ : ∃ kn : Nat, (H.parts[nn]!).kind = kn := ⟨(H.parts[nn]!).kind.toNat, by omega⟩
      have hknl : kn < H.reg.kinds.length := by omega
      have hK := hs.kinds kn hknl
      obtain ⟨p, hp⟩ : ∃ p, H.parts[nn]! = p := ⟨_, rfl⟩
      obtain ⟨K, hKe⟩ : ∃ K, H.reg.kinds[kn]! = K := ⟨_, rfl⟩
      have E : H.fit nn mm pl = if (p.im == -1 && p.ip == -1) && (p.known && (inB pl 0 (K.places - 1) && decide (H.at kn mm pl < 0))) then
          some { H with parts := H.parts.set nn { p with im := mm, ip := pl }, hist := H.hist.set nn (H.hist[nn]! ++ [⟨mm, pl, H.works, -1, (H.flown[mm]!).1, (H.flown[mm]!).2⟩]) } else none := by
        simp only [HS.fit, fitGuard, g1, g2, Bool.true_and, Int.toNat_natCast, hp]
        rw [hp] at hkn
        simp only [hkn, Int.toNat_natCast, hKe]
      obtain ⟨pv, pcc, hv, hpa⟩ := partsV_eq L H.parts.length
      obtain rfl := hpa (by omega)
      have c4 := h.h4
      rw [hv] at c4
      have HGL := h.glb.lt
      have hgs : 1 < w.heap.size := by omega
      have hlh : L.hb < w.heap.size := h.lt .h trivial
      have hlp : L.pb nn < w.heap.size := h.lt (.part nn) hnn
      have hlr : L.pr < w.heap.size := h.lt .pr (by show 0 < _; omega)
      have c0 := h.h0
      have q := h.prow nn hnn
      have q0 := h.p0 hnn
      have q3 := h.p3 hnn
      have q4 := h.p4 hnn
      have q5 := h.p5 hnn
      have s0 := h.glb.s0
      have s1 := h.glb.s1
      obtain ⟨kb, koff, hka, hkc⟩ := h.reg.kinds.ex
      obtain ⟨hka, hkb⟩ := hka (by omega)
      have k2 := hkc kn hknl 2 _ rfl
      rw [hka] at c0
      have hkw : kb < w.heap.size := by omega
      have KAT := Lib.hid (fun (W : World) (hW : Below w.heap.size w W) => at_any (h.below hW) hf kn mm pl)
      have hnz : (nn : Int) < (H.parts.length : Int) := by omega
      have hn0 : (0 : Int) ≤ (nn : Int) := by omega
      have hkz : (kn : Int) < (H.reg.kinds.length : Int) := by omega
      have hk0 : (0 : Int) ≤ (kn : Int) := by omega
      have HH := Lib.hid h
      have HF := Lib.hid hf
      have EE := Lib.hid E
      rw [hp] at q0 q3 q4 q5 hkn hkd
      rw [hKe] at hK k2
      have HP := Lib.hid hp
      have HNN := Lib.hid hnn
      have HMM := Lib.hid hmm
      clear h hf E g1 g2 hi1 hi2 hs hv hpa hkc hka hp hKe hkd hnn hmm hknl
      obtain ⟨pk, ph, pcy, pkn, pim, pip, psn, pch⟩ := p
      obtain ⟨Kh, Kc, Kp⟩ := K
      simp only at q0 q3 q4 q5 hkn hK k2
      subst hkn
      generalize H.parts.length = np at c4 hnz hnp
      generalize H.reg.kinds.length = nk at c0 hnk hkz
      go_enter Tryd.func144, Tryd.ntmps144
      go_wp2_with (first | (go_at_call 75; refine K1.out.mono ?_; rintro e w' ⟨rfl, rfl⟩) | (go_at_call 65; refine K2.out.mono ?_; rintro e w' ⟨rfl, rfl⟩))
      have b1 : Below w.heap.size w (w.alloc (Obj.cells #[Value.int IntKind.i64 mm, Value.int IntKind.i64 pl] 113)) := (Below.refl _ _).alloc (Nat.le_refl _) _
      have B1 := Lib.hid b1
      clear b1
      by_cases hst : pim = -1 ∧ pip = -1
      · obtain ⟨rfl, rfl⟩ := hst
        cases pkn with
        | false =>
          go_quiet (fail)
          go_wp2
          go_ret
          exact did_no (by rw [EE.out]; simp) HH.out (below_drewN B1.out _)
        | true =>
          cases hin : inB pl 0 (Kp - 1) with
          | false =>
            have HIN := Lib.hid hin
            clear hin
            go_quiet ((go_at_call 66; exact Calls.quiet_of_same (within_q _ _ _ _ HIN.out _)))
            go_wp2
            go_ret
            exact did_no (by rw [EE.out, HIN.out]; simp) HH.out (below_drewN B1.out _)
          | true =>
            have HIN := Lib.hid hin
            clear hin
            refine code_named fun W hW => ?_
            have bW := B1.out
            rw [← hW] at bW
            have d0 : W.cell? ⟨w.heap.size, 0, none⟩ = some (.int .i64 mm) := by rw [hW]; simp
            have d1 : W.cell? ⟨w.heap.size, 1, none⟩ = some (.int .i64 pl) := by rw [hW]; simp
            have hWs : W.heap.size = w.heap.size + 1 := by rw [hW]; simp
            have x0 : ∀ x : Bel W, x.1.cell? ⟨w.heap.size, 0, none⟩ = some (.int .i64 mm) := fun x => by rw [x.2.cell (by simp; omega)]; exact d0
            have x1 : ∀ x : Bel W, x.1.cell? ⟨w.heap.size, 1, none⟩ = some (.int .i64 pl) := fun x => by rw [x.2.cell (by simp; omega)]; exact d1
            have xb : ∀ x : Bel W, Below w.heap.size w x.1 := fun x => bW.trans (x.2.mono (by omega))
            have y0 : ∀ x : Bel W, x.1.cell? ⟨L.hb, 0, none⟩ = some (.slice (some ⟨kb, koff, none⟩) nk L.kc) := fun x => by rw [(xb x).cell (by simp; omega)]; exact c0
            have y1 : ∀ x : Bel W, x.1.cell? ⟨L.pb nn, 0, none⟩ = some (.int .i64 (kn : Int)) := fun x => by rw [(xb x).cell (by simp; omega)]; exact q0
            have y2 : ∀ x : Bel W, x.1.cell? ⟨L.pb nn, 3, none⟩ = some (.bool true) := fun x => by rw [(xb x).cell (by simp; omega)]; exact q3
            have y3 : ∀ x : Bel W, x.1.cell? ⟨L.pb nn, 4, none⟩ = some (.int .i64 (-1)) := fun x => by rw [(xb x).cell (by simp; omega)]; exact q4
            have y4 : ∀ x : Bel W, x.1.cell? ⟨L.pb nn, 5, none⟩ = some (.int .i64 (-1)) := fun x => by rw [(xb x).cell (by simp; omega)]; exact q5
            have y5 : ∀ x : Bel W, x.1.cell? ⟨1, 0, none⟩ = some (.int .i64 (-1)) := fun x => by rw [(xb x).cell (by simp; omega)]; exact s0
            have y6 : ∀ x : Bel W, x.1.cell? ⟨1, 1, none⟩ = some (.int .i64 (-1)) := fun x => by rw [(xb x).cell (by simp; omega)]; exact s1
            have y7 : ∀ x : Bel W, x.1.cell? ⟨kb, koff + kn * 3 + 2, none⟩ = some (.int .i64 Kp) := fun x => by rw [(xb x).cell (by simp; omega)]; exact k2
            have XB := Lib.hid xb
            have BWH := Lib.hid bW
            have HWS := Lib.hid hWs
            have D0 := Lib.hid d0
            have D1 := Lib.hid d1
            clear hW d0 d1 xb bW hWs q q0 q3 q4 q5 s0 s1 k2 c0 c4
            refine wp_region_below (by kernel_rfl) (by kernel_rfl) ?_
            repeat (any_goals (first
              | go_big_quiet_step (first | (go_at_call 66; exact Calls_bel_same _ (within_r _ _ _ _ HIN.out _)) | (go_at_call 104; exact Calls_bel _ (KAT.out _ (XB.out _))))
              | quiet_step (first | (go_at_call 66; exact Calls_bel_same _ (within_r _ _ _ _ HIN.out _)) | (go_at_call 104; exact Calls_bel _ (KAT.out _ (XB.out _))))))
            refine wpQuiet_nil ?_
            rintro wc ⟨x, hx⟩
            have hwc : Below W.heap.size W wc := by rw [hx]; exact x.2
            clear hx x
            have bw : Below w.heap.size w wc := XB.out ⟨wc, hwc⟩
            have u0 : wc.cell? ⟨w.heap.size, 0, none⟩ = some (.int .i64 mm) := x0 ⟨wc, hwc⟩
            have u1 : wc.cell? ⟨w.heap.size, 1, none⟩ = some (.int .i64 pl) := x1 ⟨wc, hwc⟩
            have BW := Lib.hid bw
            clear x0 x1 y0 y1 y2 y3 y4 y5 y6 y7 bw hwc
            by_cases hat : H.at kn mm pl < 0
            · have hI := HH.out.below BW.out
              have t4 := hI.p4 HNN.out
              have t5 := hI.p5 HNN.out
              have f4 := hI.frp nn HNN.out 4
              have f5 := hI.frp nn HNN.out 5
              rw [HP.out] at t4 t5
              simp only at t4 t5
              have J1 := (hI.putPart nn HNN.out 4 (.int .i64 mm) { H.parts[nn]! with im := mm } rfl rfl rfl)
              have J2 := (J1.putPart nn (by rw [HS.setPart_len]; exact HNN.out) 5 (.int .i64 pl) { H.parts[nn]! with im := mm, ip := pl } (by rw [HS.setPart_get _ _ _ _ HNN.out, if_pos rfl]; rfl) (by rw [HS.setPart_get _ _ _ _ HNN.out, if_pos rfl]) (by rw [HS.setPart_get _ _ _ _ HNN.out, if_pos rfl]))
              have J3 : Aside (IsH ((wc.setCell ⟨L.pb nn, 4, none⟩ (.int .i64 mm)).setCell ⟨L.pb nn, 5, none⟩ (.int .i64 pl)) B L { H with parts := H.parts.set nn { H.parts[nn]! with im := mm, ip := pl } }) := by
                refine J2.cong ?_
                simp only [HS.setPart, List.set_set]
              have hBp := (hI.blocks (.part nn) HNN.out).2
              have BJ := Lib.hid (((BW.out.mono hBw).setCell (p := ⟨L.pb nn, 4, none⟩) hBp (.int .i64 mm)).setCell (p := ⟨L.pb nn, 5, none⟩) hBp (.int .i64 pl))
              clear hI J1 J2 hBp
              go_upto_region 7 with (fail)
              refine code_named fun W2 hW2 => ?_
              have J4 : IsH W2 B L { H with parts := H.parts.set nn { H.parts[nn]! with im := mm, ip := pl } } := by rw [hW2]; exact J3
              have B4 : Below B w W2 := by rw [hW2]; exact BJ.out
              clear hW2 J3 BJ u0 u1 t4 t5 f4 f5
              have hnl : nn < (H.parts.set nn { H.parts[nn]! with im := mm, ip := pl }).length := by rw [List.length_set]; exact HNN.out
              have v6 := J4.h6
              have v7 := J4.h7
              have v8 := J4.h8
              have vh := J4.hrc nn hnl
              have f0 := J4.flown0 mm HMM.out
              have f1 := J4.flown1 mm HMM.out
              have fh : W2.frozen? ⟨L.hr, nn, none⟩ = false := J4.frozen .hr trivial nn
              have fh2 : ∀ o : Obj, (W2.alloc o).frozen? ⟨L.hr, nn, none⟩ = false := fun o => by rw [World.frozen?_alloc_old _ _ _ (by have := J4.lt .hr trivial; simp only [HL.blk] at this; simp only; omega)]; exact fh
              have OW := J4.ownsHist nn hnl
              have ag : (histV L H.hist[nn]! nn).ownBlock ≠ some L.hb := J4.own_ne nn hnl .h trivial (by simp)
              have ar : (histV L H.hist[nn]! nn).ownBlock ≠ some L.hr := J4.own_ne nn hnl .hr trivial (by simp)
              have af : (histV L H.hist[nn]! nn).ownBlock ≠ some L.fb := J4.own_ne nn hnl .fb trivial (by simp)
              have l1 : L.hb < W2.heap.size := J4.lt .h trivial
              have l2 : L.hr < W2.heap.size := J4.lt .hr trivial
              have l3 : L.fb < W2.heap.size := J4.lt .fb trivial
              have hlen := HF.out.hlen nn HNN.out
              have hw1 := HF.out.works1
              have hBJ := J4.base
              have hrB := Lib.hid ((J4.blocks .hr trivial).2)
              have JA := Lib.hid (fun (x : StretchR) (w1 w3 : World) (v' : Value) hb O G A => J4.append nn hnl (by rw [List.length_set]; exact HF.out.hist) x (w1 := w1) (w3 := w3) (v' := v') hb O G A)
              simp only [List.length_set] at v6 v7 v8 vh f0 f1 fh OW ag ar af
              obtain ⟨i0, hi, hz0, hz1, hz2⟩ := info_parts info_stretch
              have hfz : (mm : Int) < (H.flown.length : Int) := by have := HMM.out; omega
              have hf0 : (0 : Int) ≤ (mm : Int) := by omega
              have hll : (H.hist[nn]!).length ≤ 200 := by omega
              clear J4 hnl hlen
              have B5 := Lib.hid B4
              have OW' := Lib.hid OW
              clear B4 OW
              generalize hov : histV L H.hist[nn]! nn = ov at vh ag ar af
              have HOV := Lib.hid hov
              clear hov
              generalize hfe : H.flown[mm]! = fe at f0 f1
              obtain ⟨fe1, fe2⟩ := fe
              simp only at f0 f1
              have HFE := Lib.hid hfe
              clear hfe
              generalize hnf : H.flown.length = nf at v6 hfz
              clear hnf
              generalize hnpp : H.parts.length = npp at v8
              have hnpz : (nn : Int) < (npp : Int) := by have := HNN.out; omega
              clear hnpp
              generalize hwk : H.works = wk at v7
              have HWK := Lib.hid hwk
              clear hwk hw1
              have OW2 : W2.ownsRow B 61 6 ov (H.hist[nn]!).length ((H.hist[nn]!).flatMap encStretch) := by rw [← HOV.out]; exact OW'.out
              obtain ⟨hl, hhl⟩ : ∃ hl, (H.hist[nn]!).length = hl := ⟨_, rfl⟩
              rw [hhl] at OW2 hll
              have HHL := Lib.hid hhl
              clear hhl
              have OW3 := Lib.hid OW2
              clear OW2
              have obB : ∀ k, ov.ownBlock = some k → B ≤ k := by
                intro k hk
                rcases OW3.out.2 with ⟨hv, _⟩ | ⟨g, cap, cur, hv, hg, _⟩
                · rw [hv] at hk; cases hk
                · rw [hv] at hk; cases hk; exact hg
              have OBB := Lib.hid obB
              clear obB
              have hA63 : hl + 1 ≤ maxLen := by simp only [maxLen]; omega
              have hA16 : (hl + 1) * 48 ≤ 140737488355328 := by omega
              have hA6 : 0 < 6 := by decide
              have hA0 : 0 < 1 := by decide
              have hA1 : ∀ u ∈ [Value.int .i64 mm, Value.int .i64 pl, Value.int .i64 wk, Value.int .i64 (-1), Value.int .i64 fe1, Value.int .i64 fe2], u.oneCell' = true := by simp [Value.oneCell']
              have hAB : ∀ o : Obj, B ≤ (W2.alloc o).drew.heap.size := fun o => by
                show B ≤ (W2.alloc o).heap.size
                rw [World.size_alloc]; omega
              have hAS : ∀ o : Obj, (W2.alloc o).drew.heap.size = W2.heap.size + 1 := fun o => World.size_alloc W2 o
              have y0 : ∀ x : Kept W2 [⟨L.hb, 6, none⟩, ⟨L.hb, 7, none⟩, ⟨L.hb, 8, none⟩, ⟨L.hr, nn, none⟩, ⟨L.fb, mm * 2, none⟩, ⟨L.fb, mm * 2 + 1, none⟩], x.1.cell? ⟨L.hb, 6, none⟩ = some (.slice (some ⟨L.fb, 0, none⟩) nf nf) := fun x => x.cell (by simp) v6
              have y1 : ∀ x : Kept W2 [⟨L.hb, 6, none⟩, ⟨L.hb, 7, none⟩, ⟨L.hb, 8, none⟩, ⟨L.hr, nn, none⟩, ⟨L.fb, mm * 2, none⟩, ⟨L.fb, mm * 2 + 1, none⟩], x.1.cell? ⟨L.hb, 7, none⟩ = some (.int .i64 wk) := fun x => x.cell (by simp) v7
              have y2 : ∀ x : Kept W2 [⟨L.hb, 6, none⟩, ⟨L.hb, 7, none⟩, ⟨L.hb, 8, none⟩, ⟨L.hr, nn, none⟩, ⟨L.fb, mm * 2, none⟩, ⟨L.fb, mm * 2 + 1, none⟩], x.1.cell? ⟨L.hb, 8, none⟩ = some (.slice (some ⟨L.hr, 0, none⟩) npp npp) := fun x => x.cell (by simp) v8
              have y3 : ∀ x : Kept W2 [⟨L.hb, 6, none⟩, ⟨L.hb, 7, none⟩, ⟨L.hb, 8, none⟩, ⟨L.hr, nn, none⟩, ⟨L.fb, mm * 2, none⟩, ⟨L.fb, mm * 2 + 1, none⟩], x.1.cell? ⟨L.hr, nn, none⟩ = some ov := fun x => x.cell (by simp) vh
              have y4 : ∀ x : Kept W2 [⟨L.hb, 6, none⟩, ⟨L.hb, 7, none⟩, ⟨L.hb, 8, none⟩, ⟨L.hr, nn, none⟩, ⟨L.fb, mm * 2, none⟩, ⟨L.fb, mm * 2 + 1, none⟩], x.1.cell? ⟨L.fb, mm * 2, none⟩ = some (.int .i64 fe1) := fun x => x.cell (by simp) f0
              have y5 : ∀ x : Kept W2 [⟨L.hb, 6, none⟩, ⟨L.hb, 7, none⟩, ⟨L.hb, 8, none⟩, ⟨L.hr, nn, none⟩, ⟨L.fb, mm * 2, none⟩, ⟨L.fb, mm * 2 + 1, none⟩], x.1.cell? ⟨L.fb, mm * 2 + 1, none⟩ = some (.int .i64 fe2) := fun x => x.cell (by simp) f1
              refine wp_region_last_lit 38 35 4 (fun W => ∃ x : Kept W2 [⟨L.hb, 6, none⟩, ⟨L.hb, 7, none⟩, ⟨L.hb, 8, none⟩, ⟨L.hr, nn, none⟩, ⟨L.fb, mm * 2, none⟩, ⟨L.fb, mm * 2 + 1, none⟩], W = x.1) (by kernel_rfl) (by rfl) (by rfl) rfl rfl (by kernel_rfl) rfl (by decide) (by kernel_rfl) (by kernel_rfl) (by kernel_rfl) (by intro c a d v w h; cases d <;> exact h) (KeptAt.refl _ _).drew ?_
              simp only [List.take_succ_cons, List.take_zero, List.cons_append, List.nil_append, nopOf]
              repeat (any_goals (first | go_big_quiet_step (fail) | quiet_step (fail)))
              refine wpQuiet_nil ?_
              have lk : ∀ p ∈ ([⟨L.hb, 6, none⟩, ⟨L.hb, 7, none⟩, ⟨L.hb, 8, none⟩, ⟨L.hr, nn, none⟩, ⟨L.fb, mm * 2, none⟩, ⟨L.fb, mm * 2 + 1, none⟩] : List Addr), p.block < W2.heap.size ∧ some p.block ≠ ov.ownBlock := by
                intro p hp
                simp only [List.mem_cons, List.not_mem_nil, or_false] at hp
                rcases hp with rfl | rfl | rfl | rfl | rfl | rfl <;> exact ⟨by assumption, Ne.symm (by assumption)⟩
              have LK := Lib.hid lk
              clear lk
              refine wpAnyH_one (e := 35) (by kernel_rfl) rfl rfl (fun K hK => ?_)
              go_simp
              refine hK _ _ ((KeptAt.refl _ _).drew.below (fun p hp => (LK.out p hp).1) ((Below.refl _ _).alloc (Nat.le_refl _) _)) ?_
              clear hK K
              refine wpAnyH_one (e := 36) (by kernel_rfl) rfl rfl (fun K hK => ?_)
              refine wp_append_lies _ _ _ _ (by rfl) B 61 i0 _ 6 48 Tryd.underlying57 hi hz0 hz1 hz2 rfl hA6 ov hl ((H.hist[nn]!).flatMap encStretch) (by rfl) (OW3.out.drew.alloc _) ⟨W2.heap.size, 0, none⟩ 1 1 [.int .i64 mm, .int .i64 pl, .int .i64 wk, .int .i64 (-1), .int .i64 fe1, .int .i64 fe2] (by rfl) (by rfl) (World.news_of_block (cs := #[.int .i64 mm, .int .i64 pl, .int .i64 wk, .int .i64 (-1), .int .i64 fe1, .int .i64 fe2]) (t := 61) (fr := (0, 0)) (heap_alloc_new W2.drew _)) hA1 hA0 hA63 hA16 (hAB _) (W2.heap.size + 1) (hAS _) ?_
              intro g cap w3 O3 G3 A3 g3
              have K3 := (((KeptAt.refl W2 [⟨L.hb, 6, none⟩, ⟨L.hb, 7, none⟩, ⟨L.hb, 8, none⟩, ⟨L.hr, nn, none⟩, ⟨L.fb, mm * 2, none⟩, ⟨L.fb, mm * 2 + 1, none⟩]).drew.below (fun p hp => (LK.out p hp).1) ((Below.refl _ _).alloc (Nat.le_refl _) _)).grown (fun p hp => ⟨by rw [World.size_alloc]; have := (LK.out p hp).1; simp only [World.drew]; omega, (LK.out p hp).2⟩) G3)
              refine hK _ _ K3 ?_
              clear hK K
              have K3' := K3
              obtain ⟨x3, hx3⟩ := K3'
              have z8 : w3.cell? ⟨L.hr, nn, none⟩ = some ov := by rw [hx3]; exact x3.cell (by simp) vh
              have zf : w3.frozen? ⟨L.hr, nn, none⟩ = false := by rw [hx3]; exact x3.frozen (by simp) fh
              clear hx3 x3
              have O3' := Lib.hid O3
              have G3' := Lib.hid G3
              have A3' := Lib.hid A3
              clear O3 G3 A3 y0 y1 y2 y3 y4 y5
              refine wpAnyH_one (e := 37) (by kernel_rfl) rfl rfl (fun K hK => ?_)
              go_simp
              refine hK _ _ K3 ?_
              clear hK K
              refine wpAnyH_fin_lit rfl rfl rfl rfl (by kernel_rfl) (by kernel_rfl) K3 ?_
              go_simp
              rename_i hat2 KK hKK
              refine hKK _ _ ?_
              clear hKK KK z8 zf K3 hA0 hA1 hA63 hA16 hAB hAS fh fh2 f0 f1 v6 v7 v8 vh ag ar af hi hz0 hz1 hz2
              have hb1 : Below W2.heap.size W2 (W2.drew.alloc (.cells #[.int .i64 mm, .int .i64 pl, .int .i64 wk, .int .i64 (-1), .int .i64 fe1, .int .i64 fe2] 61)) := (Below.refl _ _).drew.alloc (Nat.le_refl _) _
              have O4 := O3'.out
              rw [← HHL.out] at O4
              obtain ⟨L', hL', HI⟩ := JA.out ⟨mm, pl, wk, -1, fe1, fe2⟩ _ w3 _ hb1 O4 (by rw [← HOV.out] at G3'; exact G3'.out) (by
                rcases A3'.out with h | h
                · exact .inl (by rw [← HOV.out] at h; exact h.symm)
                · exact .inr (by rw [h]; show some (W2.heap.size + 1) = some ((W2.drew.alloc _).heap.size); rw [World.size_alloc]; rfl))
              have b9 : Below B w (w3.setCell ⟨L.hr, nn, none⟩ (.slice (some ⟨g, 0, none⟩) (hl + 1) cap)) :=
                ((B5.out.trans (hb1.mono hBJ)).grown G3'.out (by rw [World.size_alloc]; show B ≤ W2.heap.size + 1; omega) OBB.out).setCell hrB.out _
              have e2 := EE.out
              rw [HIN.out, if_pos (by simp; exact hat2)] at e2
              have D9 : Did w B L H (H.fit nn mm pl) (.returned (.bool true)) (w3.setCell ⟨L.hr, nn, none⟩ (.slice (some ⟨g, 0, none⟩) (hl + 1) cap)) := by
                refine ⟨by rw [e2]; rfl, b9, L', hL', ?_⟩
                rw [e2, HFE.out]
                rw [HP.out, HHL.out, ← HWK.out] at HI
                exact HI
              have DD := Lib.hid D9
              clear HI D9 b9 e2 O4 hb1
              go_wp2
              go_ret
              exact DD.out
            · go_wp2
              go_ret
              exact did_no (by rw [EE.out, HIN.out]; simp; omega) HH.out BW.out
      · have hb : (pim == -1 && pip == -1) = false := by
          rw [Bool.and_eq_false_iff]
          simp only [beq_eq_false_iff_ne]
          omega
        go_quiet (fail)
        go_wp2
        go_ret
        exact did_no (by rw [EE.out]; simp [hb]) HH.out (below_drewN B1.out _)
end Go.Proofs.YtchnhjffpldpiaaDoor
