/- hangar.fly, walked. -/
import Derived.Test.YtchnhjffpldpiaaDoorH4
import Derived.Test.YtchnhjffpldpiaaDoorMem2
import Derived.BigRegion
import Derived.Deep.DrawnRows
namespace Go.Proofs.YtchnhjffpldpiaaDoor
open Go.RowKit
attribute [local go_sem] eqi_spot eqi_pair gd_spot gd_pair
attribute [local go_sem ↓] Go.wp_at_zero Go.wp_at_succ

variable {w : World} {B : Nat} {L : HL} {H : HS}

theorem code_named {P : Program} {c : Code} {Q : Exit → Act → World → Prop} {a : Act} {w : World} (h : ∀ W, W = w → c.wp P Q a W) : c.wp P Q a w := h w rfl

/-- The parts behind k rounds of a flight. -/
def FlyTo (H : HS) (m hours cyc : Int) (k : Nat) (P : List PS) : Prop := P.length = H.parts.length ∧ ∀ i, i < H.parts.length → P[i]! = if i < k then flyPart H m hours cyc H.parts[i]! else H.parts[i]!
/-- A part's hours since the orders behind j rounds. -/
def SinceTo (hours : Int) (issued : List Bool) (since : List Int) (j : Nat) (S : List Int) : Prop := S.length = since.length ∧ ∀ i, i < since.length → S[i]! = if i < j then (if issued[i]! then since[i]! + hours else since[i]!) else since[i]!

theorem ext_get! {α : Type} [Inhabited α] {a b : List α} (hl : a.length = b.length) (h : ∀ i, i < a.length → a[i]! = b[i]!) : a = b := by
  apply List.ext_getElem hl
  intro i h1 h2
  have := h i h1
  rwa [getElem!_pos a i h1, getElem!_pos b i h2] at this

theorem SinceTo.done {hours : Int} {issued : List Bool} {since S : List Int} (h : SinceTo hours issued since since.length S) (hl : issued.length = since.length) : S = flySince hours issued since := by
  have hz : (flySince hours issued since).length = since.length := by simp [flySince, hl]
  refine ext_get! (by rw [h.1, hz]) fun i hi => ?_
  rw [h.1] at hi
  rw [h.2 i hi, if_pos hi, getElem!_pos (flySince hours issued since) i (by omega)]
  simp only [flySince, List.getElem_zipWith]
  rw [getElem!_pos issued i (by omega), getElem!_pos since i hi]

theorem FlyTo.done {m hours cyc : Int} {P : List PS} (h : FlyTo H m hours cyc H.parts.length P) : P = H.parts.map (flyPart H m hours cyc) := by
  refine ext_get! (by rw [h.1]; simp) fun i hi => ?_
  rw [h.1] at hi
  rw [h.2 i hi, if_pos hi, getElem!_pos (H.parts.map _) i (by simpa using hi), List.getElem_map, getElem!_pos H.parts i hi]

set_option maxRecDepth 100000 in
set_option maxHeartbeats 1000000 in
theorem fly_no (h : IsH w B L H) (hf : H.Fit) (m hours cyc : Int) (hg : flyGuard H m hours cyc = false) :
    Calls Tryd.prog 143 #[.pointer (some ⟨L.hb, 0, none⟩), .int .i64 m, .int .i64 hours, .int .i64 cyc] w fun e w' => e = .returned (.bool false) ∧ Below w.heap.size w w' := by
  have K1 := Lib.hid (machine_any h hf m)
  have K2 := Lib.hid (longest_any h hf m cyc)
  have HG := Lib.hid hg
  clear h hf hg
  go_enter Tryd.func143, Tryd.ntmps143
  go_wp2_with (first | (go_at_call 65; refine K1.out.mono ?_; rintro e w' ⟨rfl, rfl⟩) | (go_at_call 66; refine (within_any _ _ _ _).mono ?_; rintro e w' ⟨rfl, rfl⟩) | (go_at_call 67; refine K2.out.mono ?_; rintro e w' ⟨rfl, hb⟩))
  all_goals first
    | (go_ret; exact ⟨rfl, by first | exact Below.refl _ _ | assumption⟩)
    | (exfalso; have hx := HG.out; first | (simp [flyGuard, *] at hx; done) | (simp [flyGuard, *] at hx; omega))

theorem flyGuard_parts {m hours cyc : Int} (h : flyGuard H m hours cyc = true) : H.machine m = true ∧ inB hours 0 100 = true ∧ inB cyc 0 100 = true ∧ hours ≤ H.longest m cyc := by
  simpa [flyGuard] using h

theorem flatMap_get? {α : Type} [Inhabited α] (enc : α → List Value) (k : Nat) (hk : ∀ x, (enc x).length = k) : ∀ (xs : List α) (j i : Nat) (u : Value), j < xs.length → (enc xs[j]!)[i]? = some u → (xs.flatMap enc)[j * k + i]? = some u := by
  intro xs
  induction xs with
  | nil => intro j i u hj; simp at hj
  | cons x xs ih =>
    intro j i u hj hu
    have hi : i < k := by
      rw [← hk (x :: xs)[j]!]
      exact (List.getElem?_eq_some_iff.1 hu).1
    rw [List.flatMap_cons]
    cases j with
    | zero =>
      rw [Nat.zero_mul, Nat.zero_add, List.getElem?_append_left (by rw [hk]; exact hi)]
      simpa using hu
    | succ j =>
      rw [List.getElem?_append_right (by rw [hk, Nat.succ_mul]; omega), hk, show (j + 1) * k + i - k = j * k + i by rw [Nat.succ_mul]; omega]
      exact ih j i u (by simpa using hj) (by simpa using hu)

theorem IsH.flown0 (h : IsH w B L H) (j : Nat) (hj : j < H.flown.length) : w.cell? ⟨L.fb, j * 2, none⟩ = some (.int .i64 (H.flown[j]!).1) :=
  (h.cell .fb trivial (j * 2)).trans (flatMap_get? encPair 2 (fun _ => rfl) H.flown j 0 _ hj rfl)
theorem IsH.flown1 (h : IsH w B L H) (j : Nat) (hj : j < H.flown.length) : w.cell? ⟨L.fb, j * 2 + 1, none⟩ = some (.int .i64 (H.flown[j]!).2) :=
  (h.cell .fb trivial (j * 2 + 1)).trans (flatMap_get? encPair 2 (fun _ => rfl) H.flown j 1 _ hj rfl)
theorem IsH.drew (h : IsH w B L H) : IsH w.drew B L H := h.below ((Below.refl _ _).drew)

theorem IsH.prow (h : IsH w B L H) (j : Nat) (hj : j < H.parts.length) : w.cell? ⟨L.pr, j, none⟩ = some (.pointer (some ⟨L.pb j, 0, none⟩)) := by
  rw [show L.pr = L.blk .pr from rfl, h.cell .pr (by show 0 < _; omega) j]
  simp [cellsOf, List.getElem?_append_left, hj]
theorem IsH.issued' (h : IsH w B L H) (k : Nat) (hk : k < H.issued.length) : w.cell? ⟨L.ib, k, none⟩ = some (.bool H.issued[k]!) :=
  (h.cell .ib trivial k).trans (map_get? _ _ _ hk)
theorem IsH.chk' (h : IsH w B L H) (i : Nat) (hi : i < H.parts.length) (k : Nat) (hk : k < (H.parts[i]!).chk.length) : w.cell? ⟨L.cb i, k, none⟩ = some (.bool (H.parts[i]!).chk[k]!) :=
  (h.cell (.chk i) hi k).trans (map_get? _ _ _ hk)
theorem IsH.since' (h : IsH w B L H) (i : Nat) (hi : i < H.parts.length) (k : Nat) (hk : k < (H.parts[i]!).since.length) : w.cell? ⟨L.sb i, k, none⟩ = some (.int .i64 (H.parts[i]!).since[k]!) :=
  (h.cell (.since i) hi k).trans (map_get? _ _ _ hk)
theorem IsH.ltp (h : IsH w B L H) (i : Nat) (hi : i < H.parts.length) : L.pb i < w.heap.size := h.lt (.part i) hi
theorem IsH.frp (h : IsH w B L H) (i : Nat) (hi : i < H.parts.length) (o : Nat) : w.frozen? ⟨L.pb i, o, none⟩ = false := h.frozen (.part i) hi o
theorem IsH.frs (h : IsH w B L H) (i : Nat) (hi : i < H.parts.length) (o : Nat) : w.frozen? ⟨L.sb i, o, none⟩ = false := h.frozen (.since i) hi o
theorem IsH.frf (h : IsH w B L H) (o : Nat) : w.frozen? ⟨L.fb, o, none⟩ = false := h.frozen .fb trivial o

theorem IsH.cong {H' : HS} (h : IsH w B L H) (e : H' = H) : IsH w B L H' := e ▸ h

set_option maxRecDepth 100000 in
set_option maxHeartbeats 4000000 in
theorem fly_yes (h : IsH w B L H) (hf : H.Fit) (m hours cyc : Int) (hg : flyGuard H m hours cyc = true) :
    Calls Tryd.prog 143 #[.pointer (some ⟨L.hb, 0, none⟩), .int .i64 m, .int .i64 hours, .int .i64 cyc] w fun e w' => e = .returned (.bool true) ∧ Below B w w' ∧
      IsH w' B L { H with parts := H.parts.map (flyPart H m hours cyc), flown := addFlown H.flown m.toNat hours cyc } := by
  obtain ⟨g1, g2, g3, g4⟩ := flyGuard_parts hg
  have K1 := Lib.hid (machine_any h hf m)
  have K2 := Lib.hid (longest_any h hf m cyc)
  rw [g1] at K1
  have hh := inB_iff.1 g2
  have hcc := inB_iff.1 g3
  have hmm := inB_iff.1 g1
  have hs := small_of_valid hf.valid
  have hnp : H.parts.length ≤ 24 := by rw [hf.parts]; exact hs.np
  have hno := hs.no
  have hw0 := hf.works0
  have hw1 := hf.works1
  obtain ⟨mn, rfl⟩ : ∃ mn : Nat, m = mn := ⟨m.toNat, by omega⟩
  have hmn : mn < H.flown.length := by have := hf.flown; omega
  have hm4 := hs.m1
  have hfl := hf.flowns mn hmn
  obtain ⟨pv, pcc, hv, hpa⟩ := partsV_eq L H.parts.length
  have HH := Lib.hid h
  have HF := Lib.hid hf
  have HV := Lib.hid hv
  have HPA := Lib.hid hpa
  clear h hf hg g1 hmm hs hv hpa
  go_enter Tryd.func143, Tryd.ntmps143
  go_wp2_with (first | (go_at_call 65; refine K1.out.mono ?_; rintro e w' ⟨rfl, rfl⟩) | (go_at_call 66; refine (within_any _ _ _ _).mono ?_; rintro e w' ⟨rfl, rfl⟩; rw [(by assumption : inB _ 0 100 = true)]))
  refine K2.out.mono ?_
  rintro e w1 ⟨rfl, hb1⟩
  have h1 := HH.out.below hb1
  have c4 := h1.h4
  rw [HV.out] at c4
  have H1 := Lib.hid h1
  have HB := Lib.hid (hb1.mono HH.out.base)
  have hNP := Lib.hid (rfl : H.parts.length = H.parts.length)
  clear K1 K2 h1 hb1
  generalize hnp' : H.parts.length = np at c4
  have HNP := Lib.hid hnp'
  have hnp2 : np ≤ 24 := by omega
  clear hnp'
  go_wp2
  go_loopg [39] np (fun gg s39 wr => ∃ (kk : Nat) (P : List PS), kk ≤ np ∧ np - kk ≤ gg ∧ s39 = .int .i64 kk ∧ Aside (FlyTo H mn hours cyc kk P) ∧ Aside (IsH wr B L { H with parts := P }) ∧ Aside (Below B w wr))
  case atStart => exact ⟨0, H.parts, Nat.zero_le _, by omega, rfl, ⟨rfl, fun i hi => by simp⟩, H1.out, HB.out⟩
  case round =>
    obtain ⟨kk, P, hkk, hg, rfl, FT, IH, BW⟩ := hrel
    by_cases hlt : kk < np
    · have hltz : (kk : Int) < (np : Int) := by omega
      have hk0 : (0 : Int) ≤ (kk : Int) := by omega
      obtain rfl := HPA.out (by have := HNP.out; omega)
      have hkP : kk < P.length := by have := HNP.out; have := FT.out.1; omega
      have hkH : kk < H.parts.length := by have := HNP.out; omega
      have q := IH.out.prow kk hkP
      have qm := IH.out.p4 hkP
      have q1 := IH.out.p1 hkP
      have q2 := IH.out.p2 hkP
      have r1 := IH.out.frp kk hkP 1
      have r2 := IH.out.frp kk hkP 2
      have c5 := IH.out.h5
      have hPk : P[kk]! = H.parts[kk]! := by rw [FT.out.2 kk hkH, if_neg (by omega)]
      have b1 := HF.out.hours kk hkH
      have b2 := HF.out.cycles kk hkH
      have b3 := fun j (hj : j < H.reg.orders.length) => HF.out.sinces kk j hkH hj
      have l3 := HF.out.since kk hkH
      have l4 := HF.out.issued
      simp only at qm q1 q2 c5
      rw [hPk] at qm q1 q2
      have B3 := Lib.hid b3
      have L3 := Lib.hid l3
      have L4 := Lib.hid l4
      have PK := Lib.hid hPk
      have HKP := Lib.hid hkP
      have HKH := Lib.hid hkH
      clear b3 l3 l4 hPk hkP hkH
      generalize hp : H.parts[kk]! = p at qm q1 q2 b1 b2
      have HP := Lib.hid hp
      clear hp
      by_cases hm : p.im = (mn : Int)
      · have hmn' : (p.im != (mn : Int)) = false := by simpa using hm
        have I1 := (IH.out.putPart kk HKP.out 1 (.int .i64 (p.hours + hours)) { P[kk]! with hours := p.hours + hours } rfl rfl rfl)
        have I2 := (I1.putPart kk (by rw [HS.setPart_len]; exact HKP.out) 2 (.int .i64 (p.cycles + cyc)) { P[kk]! with hours := p.hours + hours, cycles := p.cycles + cyc } (by rw [HS.setPart_get _ _ _ _ HKP.out, if_pos rfl]; rfl) (by rw [HS.setPart_get _ _ _ _ HKP.out, if_pos rfl]) (by rw [HS.setPart_get _ _ _ _ HKP.out, if_pos rfl]))
        have I2' : Aside (IsH ((wr.setCell ⟨L.pb kk, 1, none⟩ (.int .i64 (p.hours + hours))).setCell ⟨L.pb kk, 2, none⟩ (.int .i64 (p.cycles + cyc))) B L { H with parts := P.set kk { p with hours := p.hours + hours, cycles := p.cycles + cyc } }) := by
          refine I2.cong ?_
          simp only [HS.setPart, List.set_set, PK.out, HP.out]
        have HBK : B ≤ L.pb kk := (IH.out.blocks (.part kk) HKP.out).2
        have BW2 := Lib.hid ((BW.out.setCell (p := ⟨L.pb kk, 1, none⟩) HBK (.int .i64 (p.hours + hours))).setCell (p := ⟨L.pb kk, 2, none⟩) HBK (.int .i64 (p.cycles + cyc)))
        clear I1 I2 HBK
        have LP3 : Aside (p.since.length = H.reg.orders.length) := by
          have := L3.out
          rw [HP.out] at this
          exact this
        have B4 : Aside (∀ j, j < H.reg.orders.length → 0 ≤ p.since[j]! ∧ p.since[j]! ≤ 100 * H.works) := by
          have := B3.out
          rw [HP.out] at this
          exact this
        generalize hno' : H.reg.orders.length = no at c5 hno
        have HNO := Lib.hid hno'
        clear hno'
        go_wp2
        obtain ⟨wo, rfl⟩ : ∃ wo : World, wo = wr := ⟨_, rfl⟩
        go_loopg [75] no (fun gg s75 wx => ∃ (jj : Nat) (S : List Int), jj ≤ no ∧ no - jj ≤ gg ∧ s75 = .int .i64 jj ∧ Aside (SinceTo hours H.issued p.since jj S) ∧
          Aside (IsH wx B L { H with parts := P.set kk { p with hours := p.hours + hours, cycles := p.cycles + cyc, since := S } }) ∧ Aside (Below B w wx))
        case atStart => exact ⟨0, p.since, Nat.zero_le _, by omega, rfl, ⟨rfl, fun i hi => by simp⟩, I2', BW2.out⟩
        case round =>
          obtain ⟨jj, S, hjj, hgj, rfl, ST, IX, BX⟩ := hrel
          clear I2' BW2 q qm q1 q2 r1 r2 c5
          by_cases hj : jj < no
          · have hjz : (jj : Int) < (no : Int) := by omega
            have hj0 : (0 : Int) ≤ (jj : Int) := by omega
            have hlen : kk < (P.set kk { p with hours := p.hours + hours, cycles := p.cycles + cyc, since := S }).length := by rw [List.length_set]; exact HKP.out
            have hget : (P.set kk { p with hours := p.hours + hours, cycles := p.cycles + cyc, since := S })[kk]! = { p with hours := p.hours + hours, cycles := p.cycles + cyc, since := S } := by
              rw [set_get! _ _ _ _ HKP.out, if_pos rfl]
            have hSl : S.length = no := by rw [ST.out.1, LP3.out, HNO.out]
            have hSj : S[jj]! = p.since[jj]! := by rw [ST.out.2 jj (by rw [LP3.out, HNO.out]; exact hj), if_neg (by omega)]
            have d5 := IX.out.h5
            simp only [HNO.out] at d5
            have d6 := IX.out.p6 hlen
            simp only [HNO.out] at d6
            have di := IX.out.issued' jj (by rw [L4.out, HNO.out]; exact hj)
            simp only at di
            have ds := IX.out.since' kk hlen jj (by show jj < ((P.set kk _)[kk]!).since.length; rw [hget]; show jj < S.length; omega)
            simp only [hget, hSj] at ds
            have fs := IX.out.frs kk hlen jj
            have bs := B4.out jj (by rw [HNO.out]; exact hj)
            have HLN := Lib.hid hlen
            have HGT := Lib.hid hget
            have HSL := Lib.hid hSl
            have HSJ := Lib.hid hSj
            clear hlen hget hSl hSj
            generalize hsv : p.since[jj]! = sv at ds bs
            have HSV := Lib.hid hsv
            clear hsv
            cases hb : H.issued[jj]! with
            | true =>
              have HBT := Lib.hid hb
              rw [hb] at di
              clear hb
              go_wp2
              go_roundg (no - (jj + 1))
              case measure => omega
              case rel =>
                refine ⟨jj + 1, S.set jj (sv + hours), by omega, by omega, by go_num, ⟨by rw [List.length_set]; exact ST.out.1, fun i hi => ?_⟩, ?_, ?_⟩
                · rw [set_get! _ _ _ _ (by rw [HSL.out]; exact hj)]
                  by_cases e : i = jj
                  · subst e
                    rw [if_pos rfl, if_pos (by omega), HBT.out, HSV.out]
                    rfl
                  · rw [if_neg e, ST.out.2 i hi]
                    by_cases e2 : i < jj
                    · have e3 : i < jj + 1 := by omega
                      rw [if_pos e2, if_pos e3]
                    · have e3 : ¬ i < jj + 1 := by omega
                      rw [if_neg e2, if_neg e3]
                · refine (IX.out.putSince kk HLN.out jj (sv + hours)).cong ?_
                  simp only [HS.setPart, List.set_set, HGT.out]
                · exact BX.out.setCell (p := ⟨L.sb kk, jj, none⟩) (IX.out.blocks (.since kk) HLN.out).2 _
            | false =>
              have HBT := Lib.hid hb
              rw [hb] at di
              clear hb
              go_wp2
              go_roundg (no - (jj + 1))
              case measure => omega
              case rel =>
                refine ⟨jj + 1, S, by omega, by omega, by go_num, ⟨ST.out.1, fun i hi => ?_⟩, IX.out, BX.out⟩
                rw [ST.out.2 i hi]
                by_cases e : i = jj
                · subst e
                  rw [if_neg (by omega), if_pos (by omega), HBT.out]
                  rfl
                · by_cases e2 : i < jj
                  · have e3 : i < jj + 1 := by omega
                    rw [if_pos e2, if_pos e3]
                  · have e3 : ¬ i < jj + 1 := by omega
                    rw [if_neg e2, if_neg e3]
          · have hjz : ¬ (jj : Int) < (no : Int) := by omega
            have : jj = no := by omega
            subst this
            go_wp2
            go_roundg (np - (kk + 1))
            case measure => omega
            case rel =>
              refine ⟨kk + 1, _, by omega, by omega, by go_num, ⟨by rw [List.length_set]; exact FT.out.1, fun i hi => ?_⟩, IX.out, BX.out⟩
              rw [set_get! _ _ _ _ HKP.out]
              by_cases e : i = kk
              · subst e
                rw [if_pos rfl, if_pos (by omega), flyPart, HP.out, if_pos hm]
                have hS : S = flySince hours H.issued p.since := SinceTo.done (by have := ST.out; rw [LP3.out, HNO.out]; exact this) (by rw [L4.out, LP3.out])
                rw [hS]
              · rw [if_neg e, FT.out.2 i hi]
                by_cases e2 : i < kk
                · rw [if_pos e2, if_pos (by omega)]
                · rw [if_neg e2, if_neg (by omega)]
      · have hmn' : (p.im != (mn : Int)) = true := by simpa using hm
        go_wp2
        go_roundg (np - (kk + 1))
        case measure => omega
        case rel =>
          refine ⟨kk + 1, P, by omega, by omega, by go_num, ⟨FT.out.1, fun i hi => ?_⟩, IH.out, BW.out⟩
          rw [FT.out.2 i hi]
          by_cases e : i = kk
          · subst e
            rw [if_neg (by omega), if_pos (by omega), flyPart, HP.out, if_neg hm]
          · by_cases e2 : i < kk
            · rw [if_pos e2, if_pos (by omega)]
            · rw [if_neg e2, if_neg (by omega)]
    · have hltz : ¬ (kk : Int) < (np : Int) := by omega
      have : kk = np := by omega
      subst this
      have hP : P = H.parts.map (flyPart H mn hours cyc) := FlyTo.done (by rw [HNP.out]; exact FT.out)
      have d6 := IH.out.h6
      simp only at d6
      have f0 : wr.cell? ⟨L.fb, mn * 2, none⟩ = some (.int .i64 (H.flown[mn]!).1) := IH.out.flown0 mn hmn
      have f1 : wr.cell? ⟨L.fb, mn * 2 + 1, none⟩ = some (.int .i64 (H.flown[mn]!).2) := IH.out.flown1 mn hmn
      have g0 := IH.out.frf (mn * 2)
      have g1 := IH.out.frf (mn * 2 + 1)
      have hmz : (mn : Int) < (H.flown.length : Int) := by omega
      have hne : L.fb ≠ L.hb := fun e => by have := IH.out.inj .fb .h trivial trivial e; cases this
      have hne' : L.hb ≠ L.fb := fun e => hne e.symm
      generalize hfe : H.flown[mn]! = fe at *
      obtain ⟨fe1, fe2⟩ := fe
      simp only at f0 f1 hfl
      have HFE := Lib.hid hfe
      have HPP := Lib.hid hP
      clear hfe hP
      have HML := Lib.hid hmn
      generalize H.flown.length = nf at d6 hmz
      go_wp2
      go_region
      go_wp2
      go_region
      go_wp2
      go_ret
      refine ⟨rfl, ?_, ?_⟩
      · have hb := (IH.out.blocks .fb trivial).2
        exact (((BW.out.setCell (p := ⟨L.fb, mn * 2, none⟩) hb _).setCell (p := ⟨L.fb, mn * 2 + 1, none⟩) hb _).drew).drew
      · have hl0 : mn < H.flown.length := HML.out
        have J1 := IH.out.putFlown0 mn hl0 (fe1 + hours)
        have J2 := (J1.putFlown1 mn (by simp only [List.length_set]; exact hl0) (fe2 + cyc)).drew.drew
        refine J2.cong ?_
        simp only [HPP.out, addFlown, Int.toNat_natCast, HFE.out, List.set_set, set_get! _ _ _ _ hl0, if_true]
end Go.Proofs.YtchnhjffpldpiaaDoor
