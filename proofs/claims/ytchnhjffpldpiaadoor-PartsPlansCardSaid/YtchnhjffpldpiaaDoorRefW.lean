/- swashplateref09.Turning -/
import Derived.Test.YtchnhjffpldpiaaDoorMB
import Derived.Test.YtchnhjffpldpiaaDoorRefTurn
namespace Go.Proofs.YtchnhjffpldpiaaDoor
open Go.RowKit

theorem plainUp_yes {zs : List Int} {k : Nat} (h : keepA zs k = true) : plainUp zs (k + 1) = plainUp zs k ++ [zs[k]!] := by rw [plainUp_succ, h]; rfl
theorem plainUp_no {zs : List Int} {k : Nat} (h : keepA zs k = false) : plainUp zs (k + 1) = plainUp zs k := by rw [plainUp_succ, h]; exact List.append_nil _
theorem turnUp_yes {zs : List Int} {k : Nat} (h : keepB zs k = true) : turnUp zs (k + 1) = turnUp zs k ++ [zs[k]!] := by rw [turnUp_succ, h]; rfl
theorem turnUp_no {zs : List Int} {k : Nat} (h : keepB zs k = false) : turnUp zs (k + 1) = turnUp zs k := by rw [turnUp_succ, h]; exact List.append_nil _

set_option maxRecDepth 100000 in
set_option maxHeartbeats 4000000 in
theorem refTurning_any (zs : List Int) (a : Option Addr) (n c : Nat) (w : World) (B : Nat) (hB : B ≤ w.heap.size) (hR : Rd encInt 1 w B a n zs) (hn : n ≤ 300) :
    Calls Tryd.prog 20 #[.slice a n c] w fun e w' => ∃ v, e = .returned v ∧ OwnI 3 w' w.heap.size v (turnP zs) ∧ Below w.heap.size w w' := by
  obtain ⟨b, off, ha, hc⟩ := hR.ex
  have HN := Lib.hid hR.len
  have HB2 := Lib.hid hB
  have HB : Aside (∀ W, Below w.heap.size w W → Below B w W) := fun W hW => hW.mono hB
  obtain ⟨i0, hi, hz0, hz1, hz2⟩ := info_parts info_i
  have I0 := Lib.hid (And.intro hi (And.intro hz0 (And.intro hz1 hz2)))
  clear hR hB hi hz0 hz1 hz2
  go_enter Tryd.func20, Tryd.ntmps20
  go_wp2
  go_loopg [3, 4] n (fun gg s3 s4 wr => ∃ kk : Nat, kk ≤ n ∧ n - kk ≤ gg ∧ s4 = .int .i64 kk ∧ Aside (Below w.heap.size w wr) ∧ Aside (OwnI 3 wr w.heap.size s3 (plainUp zs kk)))
  case atStart => exact ⟨0, Nat.zero_le _, by omega, rfl, Below.refl _ w, OwnI.nil⟩
  case round =>
    obtain ⟨kk, hkk, hg, rfl, BW, OW⟩ := hrel
    by_cases hlt : kk < n
    · have hltz : (kk : Int) < (n : Int) := by omega
      obtain ⟨rfl, hb⟩ := ha (by omega)
      have hb2 : b < wr.heap.size := Nat.lt_of_lt_of_le hb (Nat.le_trans HB2.out BW.out.size)
      have hl : wr.cell? ⟨b, off + kk, none⟩ = some (.int .i64 zs[kk]!) := by
        have := hc kk hlt 0 _ rfl
        rw [Nat.mul_one, Nat.add_zero] at this
        exact ((HB.out _ BW.out).cell (p := ⟨b, off + kk, none⟩) hb).trans this
      have hml : (plainUp zs kk).length ≤ kk := plainUp_len _ _
      obtain ⟨ao, cp, rfl, _, _, _⟩ := OW.out.view
      cases kk with
      | zero =>
        have TN : Aside (plainUp zs 1 = [] ++ [zs[0]!]) := rfl
        generalize zs[0]! = y at hl TN
        rw [Nat.add_zero] at hl
        clear hc
        go_wp2
        go_quiet (fail)
        refine world_gen (w := wr) (Q := fun W => Exit.then _ _ _ _ W) (fun W bW => ?_) _
        have hl2 : W.cell? ⟨b, off, none⟩ = some (.int .i64 y) := (bW.cell (p := ⟨b, off, none⟩) hb2).trans hl
        obtain ⟨o1, o2, o3⟩ := app_pre BW.out (Nat.le_refl _) OW.out bW y 3
        have O1 := Lib.hid o1
        have O2 := Lib.hid o2
        have O3 := Lib.hid o3
        have BW1 := Lib.hid bW
        clear o1 o2 o3 bW hl
        go_wp2_with (at_builtin; refine wpList_append_I _ rfl _ _ 22 rfl i0 Tryd.underlying22 I0.out.1 I0.out.2.1 I0.out.2.2.1 I0.out.2.2.2 _ (plainUp zs 0) rfl w.heap.size O1.out O2.out _ _ y rfl O3.out (by omega) ?_; intro g2 o2 cap2 w1 h1 h2 _; have H1 := Lib.hid h1; have H2 := Lib.hid h2; clear h1 h2)
        go_roundg (n - (0 + 1))
        case measure => omega
        case rel => exact ⟨0 + 1, by omega, by omega, by go_num, app_post BW.out (Nat.le_refl _) OW.out BW1.out H2.out, by rw [TN.out]; exact H1.out⟩
      | succ k =>
        have hp : wr.cell? ⟨b, off + k, none⟩ = some (.int .i64 zs[k]!) := by
          have := hc k (by omega) 0 _ rfl
          rw [Nat.mul_one, Nat.add_zero] at this
          exact ((HB.out _ BW.out).cell (p := ⟨b, off + k, none⟩) hb).trans this
        have hk0 : ((k : Int) + 1 == 0) = false := by rw [beq_eq_false_iff_ne]; omega
        have hka : keepA zs (k + 1) = decide (zs[k + 1]! ≠ zs[k]!) := by
          unfold keepA
          rw [decide_eq_false (show ¬ k + 1 = 0 by omega), Nat.add_sub_cancel, Bool.false_or]
        by_cases he : zs[k + 1]! = zs[k]!
        · have TN : Aside (plainUp zs (k + 1 + 1) = plainUp zs (k + 1)) := plainUp_no (by rw [hka]; simpa using he)
          rw [he] at hl
          generalize zs[k]! = y at hl hp
          clear hc he hka
          go_wp2
          go_quiet (fail)
          refine world_gen (w := wr) (Q := fun W => Exit.then _ _ _ _ W) (fun W bW => ?_) _
          have BW1 := Lib.hid bW
          clear bW hl hp
          go_wp2
          go_roundg (n - (k + 1 + 1))
          case measure => omega
          case rel => exact ⟨k + 1 + 1, by omega, by omega, by go_num, BW.out.trans (BW1.out.mono BW.out.size), by rw [TN.out]; exact OW.out.below BW1.out⟩
        · have TN : Aside (plainUp zs (k + 1 + 1) = plainUp zs (k + 1) ++ [zs[k + 1]!]) := plainUp_yes (by rw [hka]; exact decide_eq_true he)
          have hef : (zs[k + 1]! == zs[k]!) = false := by simpa using he
          generalize zs[k]! = z at hp hef
          generalize zs[k + 1]! = y at hl hef TN
          clear hc he hka
          go_wp2
          go_quiet (fail)
          refine world_gen (w := wr) (Q := fun W => Exit.then _ _ _ _ W) (fun W bW => ?_) _
          have hl2 : W.cell? ⟨b, off + (k + 1), none⟩ = some (.int .i64 y) := (bW.cell (p := ⟨b, off + (k + 1), none⟩) hb2).trans hl
          obtain ⟨o1, o2, o3⟩ := app_pre BW.out (Nat.le_refl _) OW.out bW y 3
          have O1 := Lib.hid o1
          have O2 := Lib.hid o2
          have O3 := Lib.hid o3
          have BW1 := Lib.hid bW
          clear o1 o2 o3 bW hl
          go_wp2_with (at_builtin; refine wpList_append_I _ rfl _ _ 22 rfl i0 Tryd.underlying22 I0.out.1 I0.out.2.1 I0.out.2.2.1 I0.out.2.2.2 _ (plainUp zs (k + 1)) rfl w.heap.size O1.out O2.out _ _ y rfl O3.out (by omega) ?_; intro g2 o2 cap2 w1 h1 h2 _; have H1 := Lib.hid h1; have H2 := Lib.hid h2; clear h1 h2)
          go_roundg (n - (k + 1 + 1))
          case measure => omega
          case rel => exact ⟨k + 1 + 1, by omega, by omega, by go_num, app_post BW.out (Nat.le_refl _) OW.out BW1.out H2.out, by rw [TN.out]; exact H1.out⟩
    · have hltz : ¬ (kk : Int) < (n : Int) := by omega
      have : kk = n := by omega
      subst this
      have hml : (plainUp zs kk).length ≤ kk := plainUp_len _ _
      have HT : Aside (turnUp (plainUp zs kk) (plainUp zs kk).length = turnP zs) := by
        rw [HN.out]; exact refT_eq zs
      generalize plainUp zs kk = ps at OW hml HT
      obtain ⟨m, hm⟩ : ∃ m, ps.length = m := ⟨_, rfl⟩
      rw [hm] at hml HT
      have HM := Lib.hid hm
      obtain ⟨ao, cp, rfl, _, _, _⟩ := OW.out.view
      rw [hm] at OW ⊢
      clear hm ha hc HB HB2 HN
      rename World => w1
      go_wp2
      go_loopg [5, 6] m (fun gg s5 s6 wr => ∃ kk : Nat, kk ≤ m ∧ m - kk ≤ gg ∧ s6 = .int .i64 kk ∧ Aside (Below w1.heap.size w1 wr) ∧ Aside (OwnI 3 wr w1.heap.size s5 (turnUp ps kk)))
      case atStart => exact ⟨0, Nat.zero_le _, by omega, rfl, Below.refl _ _, OwnI.nil⟩
      case round =>
        obtain ⟨i, hi, hg, rfl, BW2, OT⟩ := hrel
        by_cases hlt : i < m
        · have hltz : (i : Int) < (m : Int) := by omega
          have hml2 : (turnUp ps i).length ≤ i := turnUp_len _ _
          obtain ⟨at', ct, rfl, _, _, _⟩ := OT.out.view
          obtain ⟨g, o, cap, e2, hcap, hmx, _, hgl, hcell⟩ := OW.out.form (by intro e; have := HM.out; rw [e] at this; simp at this; omega)
          have he2 := HM.out
          rw [he2] at e2 hcap hcell
          cases e2
          have hg2 : g < wr.heap.size := Nat.lt_of_lt_of_le hgl BW2.out.size
          have hcc : ∀ j, j < m → wr.cell? ⟨g, o + j, none⟩ = some (.int .i64 ps[j]!) := fun j hj => (BW2.out.cell (p := ⟨g, o + j, none⟩) hgl).trans (hcell j hj).1
          clear hcell he2
          cases i with
          | zero =>
            have c0 := hcc 0 hlt
            have TN : Aside (turnUp ps (0 + 1) = turnUp ps 0 ++ [ps[0]!]) := rfl
            generalize ps[0]! = y at c0 TN
            rw [Nat.add_zero] at c0
            clear hcc
            go_wp2
            go_quiet (fail)
            refine world_gen (w := wr) (Q := fun W => Exit.then _ _ _ _ W) (fun W bW => ?_) _
            have l1 : W.cell? ⟨g, o, none⟩ = some (.int .i64 y) := (bW.cell (p := ⟨g, o, none⟩) hg2).trans c0
            obtain ⟨o1, o2, o3⟩ := app_pre BW2.out (Nat.le_refl _) OT.out bW y 3
            have O1 := Lib.hid o1
            have O2 := Lib.hid o2
            have O3 := Lib.hid o3
            have BW1 := Lib.hid bW
            clear o1 o2 o3 bW
            go_wp2_with (at_builtin; refine wpList_append_I _ rfl _ _ 22 rfl i0 Tryd.underlying22 I0.out.1 I0.out.2.1 I0.out.2.2.1 I0.out.2.2.2 _ (turnUp ps 0) rfl w1.heap.size O1.out O2.out _ _ y rfl O3.out (by omega) ?_; intro g2 o2 cap2 w3 h1 h2 _; have H1 := Lib.hid h1; have H2 := Lib.hid h2; clear h1 h2)
            go_roundg (m - (0 + 1))
            case measure => omega
            case rel => exact ⟨0 + 1, by omega, by omega, by go_num, app_post BW2.out (Nat.le_refl _) OT.out BW1.out H2.out, by rw [TN.out]; exact H1.out⟩
          | succ k =>
            have hk0 : ((k : Int) + 1 == 0) = false := by rw [beq_eq_false_iff_ne]; omega
            by_cases hlast : k + 1 = m - 1
            · have hkl : ((k : Int) + 1 == (m : Int) - 1) = true := by rw [beq_iff_eq]; omega
              have TN : Aside (turnUp ps (k + 1 + 1) = turnUp ps (k + 1) ++ [ps[k + 1]!]) := turnUp_yes (by unfold keepB; rw [HM.out, decide_eq_true hlast, Bool.or_true, Bool.true_or])
              have c0 := hcc (k + 1) hlt
              generalize ps[k + 1]! = y at c0 TN
              clear hcc hlast
              go_wp2
              go_quiet (fail)
              refine world_gen (w := wr) (Q := fun W => Exit.then _ _ _ _ W) (fun W bW => ?_) _
              have l1 : W.cell? ⟨g, o + (k + 1), none⟩ = some (.int .i64 y) := (bW.cell (p := ⟨g, o + (k + 1), none⟩) hg2).trans c0
              obtain ⟨o1, o2, o3⟩ := app_pre BW2.out (Nat.le_refl _) OT.out bW y 3
              have O1 := Lib.hid o1
              have O2 := Lib.hid o2
              have O3 := Lib.hid o3
              have BW1 := Lib.hid bW
              clear o1 o2 o3 bW
              go_wp2_with (at_builtin; refine wpList_append_I _ rfl _ _ 22 rfl i0 Tryd.underlying22 I0.out.1 I0.out.2.1 I0.out.2.2.1 I0.out.2.2.2 _ (turnUp ps (k + 1)) rfl w1.heap.size O1.out O2.out _ _ y rfl O3.out (by omega) ?_; intro g2 o2 cap2 w3 h1 h2 _; have H1 := Lib.hid h1; have H2 := Lib.hid h2; clear h1 h2)
              go_roundg (m - ((k + 1) + 1))
              case measure => omega
              case rel => exact ⟨(k + 1) + 1, by omega, by omega, by go_num, app_post BW2.out (Nat.le_refl _) OT.out BW1.out H2.out, by rw [TN.out]; exact H1.out⟩
            · have hkl : ((k : Int) + 1 == (m : Int) - 1) = false := by rw [beq_eq_false_iff_ne]; omega
              have hk2 : (k : Int) + 1 + 1 < (m : Int) := by omega
              have hkB : keepB ps (k + 1) = (decide (ps[k]! < ps[k + 1]!) != decide (ps[k + 1]! < ps[k + 2]!)) := by
                unfold keepB
                rw [HM.out, decide_eq_false hlast, decide_eq_false (show ¬ k + 1 = 0 by omega), Nat.add_sub_cancel, Bool.false_or, Bool.false_or]
              have c0 := hcc (k + 1) hlt
              have c1 := hcc k (by omega)
              have c2 := hcc (k + 1 + 1) (by omega)
              have T1 : Aside (keepB ps (k + 1) = true → turnUp ps (k + 1 + 1) = turnUp ps (k + 1) ++ [ps[k + 1]!]) := turnUp_yes
              have T2 : Aside (keepB ps (k + 1) = false → turnUp ps (k + 1 + 1) = turnUp ps (k + 1)) := turnUp_no
              rw [hkB] at T1 T2
              clear hcc hkB
              generalize ps[k + 1]! = y at c0 T1 T2
              generalize ps[k]! = x at c1 T1 T2
              generalize ps[k + 2]! = z at c2 T1 T2
              cases hb1 : decide (x < y) <;> cases hb2 : decide (y < z) <;> rw [hb1, hb2] at T1 T2
              · have TN := Lib.hid (T2.out rfl)
                clear T1 T2
                go_wp2
                go_quiet (fail)
                refine world_gen (w := wr) (Q := fun W => Exit.then _ _ _ _ W) (fun W bW => ?_) _
                have BW1 := Lib.hid bW
                clear bW
                go_wp2
                go_roundg (m - (k + 1 + 1))
                case measure => omega
                case rel => exact ⟨k + 1 + 1, by omega, by omega, by go_num, BW2.out.trans (BW1.out.mono BW2.out.size), by rw [TN.out]; exact OT.out.below BW1.out⟩
              · have TN := Lib.hid (T1.out rfl)
                clear T1 T2
                go_wp2
                go_quiet (fail)
                refine world_gen (w := wr) (Q := fun W => Exit.then _ _ _ _ W) (fun W bW => ?_) _
                have l1 : W.cell? ⟨g, o + (k + 1), none⟩ = some (.int .i64 y) := (bW.cell (p := ⟨g, o + (k + 1), none⟩) hg2).trans c0
                obtain ⟨o1, o2, o3⟩ := app_pre BW2.out (Nat.le_refl _) OT.out bW y 3
                have O1 := Lib.hid o1
                have O2 := Lib.hid o2
                have O3 := Lib.hid o3
                have BW1 := Lib.hid bW
                clear o1 o2 o3 bW
                go_wp2_with (at_builtin; refine wpList_append_I _ rfl _ _ 22 rfl i0 Tryd.underlying22 I0.out.1 I0.out.2.1 I0.out.2.2.1 I0.out.2.2.2 _ (turnUp ps (k + 1)) rfl w1.heap.size O1.out O2.out _ _ y rfl O3.out (by omega) ?_; intro g2 o2 cap2 w3 h1 h2 _; have H1 := Lib.hid h1; have H2 := Lib.hid h2; clear h1 h2)
                go_roundg (m - ((k + 1) + 1))
                case measure => omega
                case rel => exact ⟨(k + 1) + 1, by omega, by omega, by go_num, app_post BW2.out (Nat.le_refl _) OT.out BW1.out H2.out, by rw [TN.out]; exact H1.out⟩
              · have TN := Lib.hid (T1.out rfl)
                clear T1 T2
                go_wp2
                go_quiet (fail)
                refine world_gen (w := wr) (Q := fun W => Exit.then _ _ _ _ W) (fun W bW => ?_) _
                have l1 : W.cell? ⟨g, o + (k + 1), none⟩ = some (.int .i64 y) := (bW.cell (p := ⟨g, o + (k + 1), none⟩) hg2).trans c0
                obtain ⟨o1, o2, o3⟩ := app_pre BW2.out (Nat.le_refl _) OT.out bW y 3
                have O1 := Lib.hid o1
                have O2 := Lib.hid o2
                have O3 := Lib.hid o3
                have BW1 := Lib.hid bW
                clear o1 o2 o3 bW
                go_wp2_with (at_builtin; refine wpList_append_I _ rfl _ _ 22 rfl i0 Tryd.underlying22 I0.out.1 I0.out.2.1 I0.out.2.2.1 I0.out.2.2.2 _ (turnUp ps (k + 1)) rfl w1.heap.size O1.out O2.out _ _ y rfl O3.out (by omega) ?_; intro g2 o2 cap2 w3 h1 h2 _; have H1 := Lib.hid h1; have H2 := Lib.hid h2; clear h1 h2)
                go_roundg (m - ((k + 1) + 1))
                case measure => omega
                case rel => exact ⟨(k + 1) + 1, by omega, by omega, by go_num, app_post BW2.out (Nat.le_refl _) OT.out BW1.out H2.out, by rw [TN.out]; exact H1.out⟩
              · have TN := Lib.hid (T2.out rfl)
                clear T1 T2
                go_wp2
                go_quiet (fail)
                refine world_gen (w := wr) (Q := fun W => Exit.then _ _ _ _ W) (fun W bW => ?_) _
                have BW1 := Lib.hid bW
                clear bW
                go_wp2
                go_roundg (m - (k + 1 + 1))
                case measure => omega
                case rel => exact ⟨k + 1 + 1, by omega, by omega, by go_num, BW2.out.trans (BW1.out.mono BW2.out.size), by rw [TN.out]; exact OT.out.below BW1.out⟩
        · have hltz : ¬ (i : Int) < (m : Int) := by omega
          have : i = m := by omega
          subst this
          go_wp2
          go_ret
          refine ⟨_, rfl, ?_, BW.out.trans (BW2.out.mono BW.out.size)⟩
          have h := OT.out
          rw [HT.out] at h
          exact h.up BW.out.size
end Go.Proofs.YtchnhjffpldpiaaDoor
