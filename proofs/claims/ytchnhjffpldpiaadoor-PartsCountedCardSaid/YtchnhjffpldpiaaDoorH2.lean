/- hangar.left, walked. -/
import Derived.Test.YtchnhjffpldpiaaDoorH1
import Derived.BigRegion
import Derived.Deep.DrawnRows
import Derived.Deep.RegionHeld3
namespace Go.Proofs.YtchnhjffpldpiaaDoor
open Go.RowKit
attribute [local go_sem] eqi_spot eqi_pair gd_spot gd_pair
attribute [local go_sem ↓] Go.wp_at_zero Go.wp_at_succ

variable {w : World} {B : Nat} {L : HL} {H : HS}

theorem leftGo_drop (kind : Int) (os : List OrderR) (bs cs : List Bool) (ss : List Int) (k : Nat) (h : Int) (ho : k < os.length) (hb : bs.length = os.length) (hc : cs.length = os.length) (hs : ss.length = os.length) :
    leftGo kind (os.drop k) (bs.drop k) (cs.drop k) (ss.drop k) h =
      leftGo kind (os.drop (k + 1)) (bs.drop (k + 1)) (cs.drop (k + 1)) (ss.drop (k + 1)) (if bs[k]! && (os[k]!.kind == kind && !cs[k]!) then min h (os[k]!.within - ss[k]!) else h) := by
  rw [List.drop_eq_getElem_cons ho, List.drop_eq_getElem_cons (l := bs) (by omega), List.drop_eq_getElem_cons (l := cs) (by omega), List.drop_eq_getElem_cons (l := ss) (by omega),
    getElem!_pos os k ho, getElem!_pos bs k (by omega), getElem!_pos cs k (by omega), getElem!_pos ss k (by omega)]
  rfl
theorem leftGo_end (kind : Int) (os : List OrderR) (bs cs : List Bool) (ss : List Int) (k : Nat) (h : Int) (ho : os.length ≤ k) :
    leftGo kind (os.drop k) (bs.drop k) (cs.drop k) (ss.drop k) h = h := by
  rw [List.drop_eq_nil_of_le ho]; rfl

theorem map_get? {α : Type} [Inhabited α] (f : α → Value) (l : List α) (k : Nat) (h : k < l.length) : (l.map f)[k]? = some (f l[k]!) := by
  rw [List.getElem?_map, List.getElem?_eq_getElem h, getElem!_pos l k h]; rfl

theorem IsH.issued (h : IsH w B L H) (hf : H.Fit) (k : Nat) (hk : k < H.reg.orders.length) : w.cell? ⟨L.ib, k, none⟩ = some (.bool H.issued[k]!) :=
  (h.cell .ib trivial k).trans (map_get? _ _ _ (by rw [hf.issued]; exact hk))
theorem IsH.chk (h : IsH w B L H) (hf : H.Fit) (i : Nat) (hi : i < H.parts.length) (k : Nat) (hk : k < H.reg.orders.length) : w.cell? ⟨L.cb i, k, none⟩ = some (.bool (H.parts[i]!).chk[k]!) :=
  (h.cell (.chk i) hi k).trans (map_get? _ _ _ (by rw [hf.chk i hi]; exact hk))
theorem IsH.since (h : IsH w B L H) (hf : H.Fit) (i : Nat) (hi : i < H.parts.length) (k : Nat) (hk : k < H.reg.orders.length) : w.cell? ⟨L.sb i, k, none⟩ = some (.int .i64 (H.parts[i]!).since[k]!) :=
  (h.cell (.since i) hi k).trans (map_get? _ _ _ (by rw [hf.since i hi]; exact hk))

section
variable {i : Nat}
theorem IsH.p0 (h : IsH w B L H) (hi : i < H.parts.length) : w.cell? ⟨L.pb i, 0, none⟩ = some (.int .i64 (H.parts[i]!).kind) := (h.p_cell hi 0).trans rfl
theorem IsH.p1 (h : IsH w B L H) (hi : i < H.parts.length) : w.cell? ⟨L.pb i, 1, none⟩ = some (.int .i64 (H.parts[i]!).hours) := (h.p_cell hi 1).trans rfl
theorem IsH.p2 (h : IsH w B L H) (hi : i < H.parts.length) : w.cell? ⟨L.pb i, 2, none⟩ = some (.int .i64 (H.parts[i]!).cycles) := (h.p_cell hi 2).trans rfl
theorem IsH.p3 (h : IsH w B L H) (hi : i < H.parts.length) : w.cell? ⟨L.pb i, 3, none⟩ = some (.bool (H.parts[i]!).known) := (h.p_cell hi 3).trans rfl
theorem IsH.p4 (h : IsH w B L H) (hi : i < H.parts.length) : w.cell? ⟨L.pb i, 4, none⟩ = some (.int .i64 (H.parts[i]!).im) := (h.p_cell hi 4).trans rfl
theorem IsH.p5 (h : IsH w B L H) (hi : i < H.parts.length) : w.cell? ⟨L.pb i, 5, none⟩ = some (.int .i64 (H.parts[i]!).ip) := (h.p_cell hi 5).trans rfl
theorem IsH.p6 (h : IsH w B L H) (hi : i < H.parts.length) : w.cell? ⟨L.pb i, 6, none⟩ = some (.slice (some ⟨L.sb i, 0, none⟩) H.reg.orders.length H.reg.orders.length) := (h.p_cell hi 6).trans rfl
theorem IsH.p7 (h : IsH w B L H) (hi : i < H.parts.length) : w.cell? ⟨L.pb i, 7, none⟩ = some (.slice (some ⟨L.cb i, 0, none⟩) H.reg.orders.length H.reg.orders.length) := (h.p_cell hi 7).trans rfl
end

set_option maxHeartbeats 2000000 in
theorem left_any (h : IsH w B L H) (hf : H.Fit) (i : Nat) (hi : i < H.parts.length) :
    Calls Tryd.prog 76 #[.pointer (some ⟨L.hb, 0, none⟩), .pointer (some ⟨L.pb i, 0, none⟩)] w fun e w' =>
      e = .returned (.tuple #[.int .i64 (H.left H.parts[i]!).1, .int .i64 (H.left H.parts[i]!).2]) ∧ Below w.heap.size w w' := by
  have hs := small_of_valid hf.valid
  have hno := hs.no
  have hkd := hf.kind0 i hi
  have hhr := hf.hours i hi
  have hcy := hf.cycles i hi
  have hw0 := hf.works0
  have hw1 := hf.works1
  have hnk := hs.nk
  obtain ⟨kn, hkn⟩ : ∃ kn : Nat, (H.parts[i]!).kind = kn := ⟨(H.parts[i]!).kind.toNat, by omega⟩
  have hknl : kn < H.reg.kinds.length := by omega
  have hK := hs.kinds kn hknl
  have c0 := h.h0
  have c3 := h.h3
  have c5 := h.h5
  have p0 := h.p0 hi
  have p1 := h.p1 hi
  have p2 := h.p2 hi
  have p6 := h.p6 hi
  have p7 := h.p7 hi
  obtain ⟨kb, koff, hka, hkc⟩ := h.reg.kinds.ex
  obtain ⟨hka, hkb⟩ := hka (by omega)
  have k0 := hkc kn hknl 0 _ rfl
  have k1 := hkc kn hknl 1 _ rfl
  have k2 := hkc kn hknl 2 _ rfl
  rw [Nat.add_zero] at k0
  have hBw := h.base
  have hlh : L.hb < w.heap.size := h.lt .h trivial
  have hlp : L.pb i < w.heap.size := h.lt (.part i) hi
  have neh : L.hb ≠ w.heap.size := by omega
  have nep : L.pb i ≠ w.heap.size := by omega
  have nek : kb ≠ w.heap.size := by omega
  have HI := fun W (hW : Below w.heap.size w W) k (hk : k < H.reg.orders.length) => (h.below hW).issued hf k hk
  have HC := fun W (hW : Below w.heap.size w W) k (hk : k < H.reg.orders.length) => (h.below hW).chk hf i hi k hk
  have HN := fun W (hW : Below w.heap.size w W) k (hk : k < H.reg.orders.length) => (h.below hW).since hf i hi k hk
  have HSB := fun k (hk : k < H.reg.orders.length) => hf.sinces i k hi hk
  have HOB := fun k (hk : k < H.reg.orders.length) => hs.orders k hk
  obtain ⟨ob, ooff, hoa, hoc⟩ := h.reg.orders.ex
  have L1 := hf.issued
  have L2 := hf.chk i hi
  have L3 := hf.since i hi
  have HLft : H.left H.parts[i]! = (leftGo (H.parts[i]!).kind H.reg.orders H.issued (H.parts[i]!).chk (H.parts[i]!).since ((H.reg.kinds[kn]!).hours - (H.parts[i]!).hours), (H.reg.kinds[kn]!).cycles - (H.parts[i]!).cycles) := by
    unfold HS.left; rw [hkn]; rfl
  rw [HLft]
  clear HLft
  rw [hka] at c0
  have hHb : ∀ W, Below w.heap.size w W → W.cell? ⟨L.hb, 5, none⟩ = some (.slice (some ⟨L.ib, 0, none⟩) H.reg.orders.length H.reg.orders.length) := fun W hW => (h.below hW).h5
  have hPb : ∀ W, Below w.heap.size w W → W.cell? ⟨L.pb i, 0, none⟩ = some (.int .i64 (H.parts[i]!).kind) ∧ W.cell? ⟨L.pb i, 6, none⟩ = some (.slice (some ⟨L.sb i, 0, none⟩) H.reg.orders.length H.reg.orders.length) ∧ W.cell? ⟨L.pb i, 7, none⟩ = some (.slice (some ⟨L.cb i, 0, none⟩) H.reg.orders.length H.reg.orders.length) := fun W hW => ⟨(h.below hW).p0 hi, (h.below hW).p6 hi, (h.below hW).p7 hi⟩
  have hlt4 : H.reg.orders.length = 0 ∨ (L.ib < w.heap.size ∧ L.sb i < w.heap.size ∧ L.cb i < w.heap.size) := .inr ⟨h.lt .ib trivial, h.lt (.since i) hi, h.lt (.chk i) hi⟩
  have HLT := Lib.hid hlt4
  clear hlt4
  clear h hf hs hkc hka hi
  generalize H.parts[i]! = p at *
  generalize H.reg.kinds[kn]! = K at *
  generalize hno' : H.reg.orders.length = no at *
  have HI' := Lib.hid HI
  have HC' := Lib.hid HC
  have HN' := Lib.hid HN
  have HSB' := Lib.hid HSB
  have HOB' := Lib.hid HOB
  have HOC := Lib.hid hoc
  have HOA := Lib.hid hoa
  have HB5 := Lib.hid hHb
  have HPB := Lib.hid hPb
  have L1' := Lib.hid L1
  have L2' := Lib.hid L2
  have L3' := Lib.hid L3
  have HNO := Lib.hid hno'
  clear HI HC HN HSB HOB hoc hoa hHb hPb L1 L2 L3 hno'
  obtain ⟨pk, ph, pcy, pkn, pim, pip, psn, pch⟩ := p
  obtain ⟨Kh, Kc, Kp⟩ := K
  simp only at *
  subst hkn
  generalize H.reg.kinds.length = nk at *
  generalize H.issued = iss at *
  generalize H.works = wk at *
  generalize L.oa = oa at *
  go_enter Tryd.func76, Tryd.ntmps76
  go_wp2
  go_region_held3 (fun w' => w'.cell? ⟨L.hb, 0, none⟩ = some (.slice (some ⟨kb, koff, none⟩) nk L.kc) ∧ w'.cell? ⟨L.pb i, 0, none⟩ = some (.int .i64 (kn : Int)) ∧
    w'.cell? ⟨kb, koff + kn * 3, none⟩ = some (.int .i64 Kh) ∧ w'.cell? ⟨kb, koff + kn * 3 + 1, none⟩ = some (.int .i64 Kc) ∧ w'.cell? ⟨kb, koff + kn * 3 + 2, none⟩ = some (.int .i64 Kp)) (go_keep) (fail)
  go_wp2
  go_quiet (fail)
  go_wp2
  go_loopg [4, 43] no (fun gg s4 s43 wr => ∃ (kk : Nat) (hc : Int), kk ≤ no ∧ no - kk ≤ gg ∧ s43 = .int .i64 kk ∧ s4 = .int .i64 hc ∧ -200000 ≤ hc ∧ hc ≤ 200000 ∧ Aside (Below w.heap.size w wr) ∧
    Aside (leftGo (kn : Int) H.reg.orders iss pch psn (Kh - ph) = leftGo (kn : Int) (H.reg.orders.drop kk) (iss.drop kk) (pch.drop kk) (psn.drop kk) hc))
  case atStart =>
    exact ⟨0, _, Nat.zero_le _, by omega, rfl, rfl, by omega, by omega, below_drewN ((Below.refl _ _).alloc (Nat.le_refl _) _) _, rfl⟩
  case round =>
    obtain ⟨kk, hc, hkk, hg, rfl, rfl, hc0, hc1, BW, A⟩ := hrel
    by_cases hlt : kk < no
    · have hltz : (kk : Int) < (no : Int) := by omega
      have hk0 : (0 : Int) ≤ (kk : Int) := by omega
      obtain ⟨rfl, hob⟩ := HOA.out (by omega)
      have BB : Below B w wr := BW.out.mono (by omega)
      have hsz := BW.out.size
      have o0 := HOC.out kk hlt 0 _ rfl
      have o1 := HOC.out kk hlt 1 _ rfl
      rw [← BB.cell (p := ⟨ob, ooff + kk * 2 + 0, none⟩) hob, Nat.add_zero] at o0
      rw [← BB.cell (p := ⟨ob, ooff + kk * 2 + 1, none⟩) hob] at o1
      have h5 := HB5.out wr BW.out
      have i5 := HI'.out wr BW.out kk hlt
      obtain ⟨q0, q6, q7⟩ := HPB.out wr BW.out
      have cc := HC'.out wr BW.out kk hlt
      have sn := HN'.out wr BW.out kk hlt
      have sb := HSB'.out kk hlt
      have ok := HOB'.out kk hlt
      have hL := HLT.out
      have e1 : L.hb < wr.heap.size := by omega
      have e2 : L.ib < wr.heap.size := by omega
      have e3 : L.pb i < wr.heap.size := by omega
      have e4 : L.sb i < wr.heap.size := by omega
      have e5 : L.cb i < wr.heap.size := by omega
      have D : Aside (leftGo (kn : Int) (H.reg.orders.drop kk) (iss.drop kk) (pch.drop kk) (psn.drop kk) hc = leftGo (kn : Int) (H.reg.orders.drop (kk + 1)) (iss.drop (kk + 1)) (pch.drop (kk + 1)) (psn.drop (kk + 1)) (if iss[kk]! && (H.reg.orders[kk]!.kind == (kn : Int) && !pch[kk]!) then min hc (H.reg.orders[kk]!.within - psn[kk]!) else hc)) :=
        leftGo_drop _ _ _ _ _ kk hc (by rw [HNO.out]; exact hlt) (by rw [HNO.out]; exact L1'.out) (by rw [HNO.out]; exact L2'.out) (by rw [HNO.out]; exact L3'.out)
      clear hL hob
      generalize H.reg.orders[kk]! = o at *
      obtain ⟨okd, owi⟩ := o
      simp only at *
      generalize iss[kk]! = b at *
      generalize pch[kk]! = c at *
      generalize psn[kk]! = sv at *
      cases b with
      | false =>
        go_wp2
        go_quiet (fail)
        go_wp2
        all_goals
          go_roundg (no - (kk + 1))
          case measure => omega
          case rel =>
            refine ⟨kk + 1, _, by omega, by omega, by go_num, rfl, by omega, by omega, below_drewN (BW.out.alloc hsz _) _, ?_⟩
            show _ = _
            rw [A.out, D.out]
            first | rfl | (congr 1; first | (simp; done) | (simp; omega) | (simp [*]; done) | (simp [*]; omega))
      | true =>
        by_cases hk : okd = (kn : Int)
        · subst hk
          cases c with
          | false =>
            go_wp2
            go_quiet (fail)
            go_wp2
            go_quiet (fail)
            go_wp2
            all_goals
              go_roundg (no - (kk + 1))
              case measure => omega
              case rel =>
                refine ⟨kk + 1, _, by omega, by omega, by go_num, rfl, by omega, by omega, below_drewN (BW.out.alloc hsz _) _, ?_⟩
                show _ = _
                rw [A.out, D.out]
                first | rfl | (congr 1; first | (simp; done) | (simp; omega) | (simp [*]; done) | (simp [*]; omega))
          | true =>
            go_wp2
            go_quiet (fail)
            go_wp2
            all_goals
              go_roundg (no - (kk + 1))
              case measure => omega
              case rel =>
                refine ⟨kk + 1, _, by omega, by omega, by go_num, rfl, by omega, by omega, below_drewN (BW.out.alloc hsz _) _, ?_⟩
                show _ = _
                rw [A.out, D.out]
                first | rfl | (congr 1; first | (simp; done) | (simp; omega) | (simp [*]; done) | (simp [*]; omega))
        · have hd : decide (okd = (kn : Int)) = false := by simpa using hk
          have hb : (okd == (kn : Int)) = false := by simpa using hk
          go_wp2
          go_quiet (fail)
          go_wp2
          all_goals
            go_roundg (no - (kk + 1))
            case measure => omega
            case rel =>
              refine ⟨kk + 1, _, by omega, by omega, by go_num, rfl, by omega, by omega, below_drewN (BW.out.alloc hsz _) _, ?_⟩
              show _ = _
              rw [A.out, D.out]
              first | rfl | (congr 1; first | (simp; done) | (simp; omega) | (simp [*]; done) | (simp [*]; omega))
    · have hltz : ¬ (kk : Int) < (no : Int) := by omega
      have : kk = no := by omega
      subst this
      go_wp2
      go_ret2
      refine ⟨?_, BW.out⟩
      rw [A.out, leftGo_end _ _ _ _ _ _ _ (by rw [HNO.out]; exact Nat.le_refl _)]
      rfl
end Go.Proofs.YtchnhjffpldpiaaDoor
