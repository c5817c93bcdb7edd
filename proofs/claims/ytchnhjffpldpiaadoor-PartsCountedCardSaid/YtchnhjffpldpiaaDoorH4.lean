/- hangar.longest, walked. -/
import Derived.Test.YtchnhjffpldpiaaDoorH3
namespace Go.Proofs.YtchnhjffpldpiaaDoor
open Go.RowKit
attribute [local go_sem] eqi_spot eqi_pair gd_spot gd_pair

variable {w : World} {B : Nat} {L : HL} {H : HS}

theorem longGo_drop (H : HS) (m cyc : Int) (ps : List PS) (k : Nat) (most : Int) (hk : k < ps.length) :
    longGo H m cyc (ps.drop k) most = if (ps[k]!).im = m then (if (H.left ps[k]!).2 < cyc then -1 else longGo H m cyc (ps.drop (k + 1)) (min most (H.left ps[k]!).1)) else longGo H m cyc (ps.drop (k + 1)) most := by
  rw [List.drop_eq_getElem_cons hk, getElem!_pos ps k hk]
  rfl

set_option maxRecDepth 100000 in
set_option maxHeartbeats 2000000 in
theorem longest_any (h : IsH w B L H) (hf : H.Fit) (m cyc : Int) :
    Calls Tryd.prog 67 #[.pointer (some ⟨L.hb, 0, none⟩), .int .i64 m, .int .i64 cyc] w fun e w' => e = .returned (.int .i64 (H.longest m cyc)) ∧ Below w.heap.size w w' := by
  have K := Lib.hid (lacks_any h hf m)
  obtain ⟨pv, pcc, hv, hpa⟩ := partsV_eq L H.parts.length
  have H4 : ∀ W, Below w.heap.size w W → W.cell? ⟨L.hb, 4, none⟩ = some (.slice pv H.parts.length pcc) := fun W hW => by rw [(h.below hW).h4, hv]
  have HP : ∀ W, Below w.heap.size w W → ∀ j, j < H.parts.length → W.cell? ⟨L.pr, j, none⟩ = some (.pointer (some ⟨L.pb j, 0, none⟩)) := fun W hW j hj => by
    rw [show L.pr = L.blk .pr from rfl, (h.below hW).cell .pr (by show 0 < _; omega) j]
    simp [cellsOf, List.getElem?_append_left, hj]
  have HM : ∀ W, Below w.heap.size w W → ∀ j, j < H.parts.length → W.cell? ⟨L.pb j, 4, none⟩ = some (.int .i64 (H.parts[j]!).im) := fun W hW j hj => (h.below hW).p4 hj
  have HL := fun W (hW : Below w.heap.size w W) j (hj : j < H.parts.length) => left_any (h.below hW) hf j hj
  have hnp : H.parts.length ≤ 24 := by rw [hf.parts]; exact (small_of_valid hf.valid).np
  have E : H.longest m cyc = if (H.lacks m).length > 0 then -1 else longGo H m cyc H.parts 100 := rfl
  have EE := Lib.hid E
  have H4' := Lib.hid H4
  have HP' := Lib.hid HP
  have HM' := Lib.hid HM
  have HL' := Lib.hid HL
  have HPA := Lib.hid hpa
  have DR := Lib.hid (longGo_drop H m cyc H.parts)
  clear h hf H4 HP HM HL hv hpa E
  generalize hnp' : H.parts.length = np at *
  go_enter Tryd.func67, Tryd.ntmps67
  go_wp2_with fail
  refine K.out.mono ?_
  rintro e w1 ⟨⟨v, rfl, OW⟩, hb1⟩
  obtain ⟨a, c, rfl, -⟩ := rd_of_owns (by intro x; rfl) OW
  have BW1 := Lib.hid hb1
  have c4 := H4'.out w1 hb1
  clear OW hb1 K
  generalize hll : (H.lacks m).length = ll at *
  by_cases hl : 0 < ll
  · have hlz : (0 : Int) < (ll : Int) := by omega
    go_wp2
    go_ret
    exact ⟨ret_int (by rw [EE.out, if_pos (by omega)]), BW1.out⟩
  · have hlz : ¬ (0 : Int) < (ll : Int) := by omega
    have EE2 : Aside (H.longest m cyc = longGo H m cyc H.parts 100) := by
      show _ = _
      rw [EE.out, if_neg (by omega)]
    clear EE
    have HNP := Lib.hid hnp'
    clear hnp' hll
    go_wp2
    go_loopg [7, 22] np (fun gg s7 s22 wr => ∃ (kk : Nat) (most : Int), kk ≤ np ∧ np - kk ≤ gg ∧ s22 = .int .i64 kk ∧ s7 = .int .i64 most ∧ Aside (Below w.heap.size w wr) ∧
      Aside (longGo H m cyc H.parts 100 = longGo H m cyc (H.parts.drop kk) most))
    case atStart => exact ⟨0, 100, Nat.zero_le _, by omega, rfl, rfl, BW1.out, rfl⟩
    case round =>
      obtain ⟨kk, most, hkk, hg, rfl, rfl, BW, A⟩ := hrel
      by_cases hlt : kk < np
      · have hltz : (kk : Int) < (np : Int) := by omega
        have hk0 : (0 : Int) ≤ (kk : Int) := by omega
        obtain rfl := HPA.out (by omega)
        have q := HP'.out wr BW.out kk hlt
        have qm := HM'.out wr BW.out kk hlt
        have CT := Lib.hid (HL'.out wr BW.out kk hlt)
        have D := Lib.hid (DR.out kk most hlt)
        generalize H.parts[kk]! = p at *
        by_cases hm : p.im = m
        · have hmz : (p.im == m) = true := by simpa using hm
          have hmn : (p.im != m) = false := by simpa using hm
          have D1 : Aside (longGo H m cyc (H.parts.drop kk) most = if (H.left p).2 < cyc then -1 else longGo H m cyc (H.parts.drop (kk + 1)) (min most (H.left p).1)) := by
            show _ = _
            rw [D.out, if_pos hm]
          clear D
          obtain ⟨lh, hlh⟩ : ∃ x, (H.left p).1 = x := ⟨_, rfl⟩
          obtain ⟨lc, hlc⟩ : ∃ x, (H.left p).2 = x := ⟨_, rfl⟩
          rw [hlh, hlc] at D1 CT
          clear hlh hlc
          by_cases hlcc : lc < cyc
          · go_wp2_with fail
            refine CT.out.mono ?_
            rintro e w2 ⟨rfl, hb2⟩
            go_wp2
            go_ret
            exact ⟨ret_int (by rw [EE2.out, A.out, D1.out, if_pos hlcc]), BW.out.trans (hb2.mono BW.out.size)⟩
          · go_wp2_with fail
            refine CT.out.mono ?_
            rintro e w2 ⟨rfl, hb2⟩
            go_wp2
            all_goals
              go_roundg (np - (kk + 1))
              case measure => omega
              case rel =>
                refine ⟨kk + 1, _, by omega, by omega, by go_num, rfl, BW.out.trans (hb2.mono BW.out.size), ?_⟩
                show _ = _
                rw [A.out, D1.out, if_neg (by omega)]
                first | rfl | (congr 1; omega)
        · have hmz : (p.im == m) = false := by simpa using hm
          have hmn : (p.im != m) = true := by simpa using hm
          go_wp2_with fail
          go_roundg (np - (kk + 1))
          case measure => omega
          case rel =>
            refine ⟨kk + 1, _, by omega, by omega, by go_num, rfl, BW.out, ?_⟩
            show _ = _
            rw [A.out, D.out, if_neg hm]
      · have hltz : ¬ (kk : Int) < (np : Int) := by omega
        have : kk = np := by omega
        subst this
        go_wp2
        go_ret
        refine ⟨ret_int ?_, BW.out⟩
        rw [EE2.out, A.out, List.drop_eq_nil_of_le (by rw [HNP.out]; exact Nat.le_refl _)]
        rfl
end Go.Proofs.YtchnhjffpldpiaaDoor
