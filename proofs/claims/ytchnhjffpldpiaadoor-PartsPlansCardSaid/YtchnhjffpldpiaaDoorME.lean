/- D1, D2, D3, D4, Open, Longest. -/
import Derived.Test.YtchnhjffpldpiaaDoorMD
/- hangar.do, walked: the works that are done by functions of their own, and the unknown ones. -/
namespace Go.Proofs.YtchnhjffpldpiaaDoor
open Go.RowKit
attribute [local go_sem] eqi_spot eqi_pair gd_spot gd_pair
attribute [local go_sem ↓] Go.wp_at_zero Go.wp_at_succ

variable {w : World} {B : Nat} {L : HL} {H : HS}

theorem fly_any (h : IsH w B L H) (hf : H.Fit) (m hours cyc : Int) :
    Calls Tryd.prog 143 #[.pointer (some ⟨L.hb, 0, none⟩), .int .i64 m, .int .i64 hours, .int .i64 cyc] w (Did w B L H (H.fly m hours cyc)) := by
  cases hg : flyGuard H m hours cyc with
  | false =>
    have e : H.fly m hours cyc = none := by simp [HS.fly, hg]
    refine (fly_no h hf m hours cyc hg).mono ?_
    rintro e w' ⟨rfl, hb⟩
    exact did_no (by assumption) h hb
  | true =>
    have e : H.fly m hours cyc = some { H with parts := H.parts.map (flyPart H m hours cyc), flown := addFlown H.flown m.toNat hours cyc } := by simp [HS.fly, hg]
    refine (fly_yes h hf m hours cyc hg).mono ?_
    rintro e w' ⟨rfl, hb, hi⟩
    refine ⟨by simp [*], hb, L, rfl, ?_⟩
    rw [‹H.fly m hours cyc = _›]
    exact hi

theorem check_did (h : IsH w B L H) (hf : H.Fit) (n o : Int) :
    Calls Tryd.prog 145 #[.pointer (some ⟨L.hb, 0, none⟩), .int .i64 n, .int .i64 o] w (Did w B L H (H.check n o)) := by
  refine (check_any h hf n o).mono ?_
  rintro e w' ⟨he, hb, hi⟩
  exact ⟨he, hb, L, rfl, hi⟩

/-- What is left of 'Did' when the answer is known. -/
def DidW (w : World) (B : Nat) (L : HL) (H : HS) (r : Option HS) (w' : World) : Prop := Below B w w' ∧ ∃ L', L'.hb = L.hb ∧ IsH w' B L' (r.getD H)
theorem Did.from {w W w' : World} {r : Option HS} {e : Ending} (hb : Below B w W) (hd : Did W B L H r e w') : Did w B L H r e w' :=
  ⟨hd.1, hb.trans hd.2.1, hd.2.2⟩


theorem Did.at {w W : World} {r : Option HS} {f : FuncId} {args : Array Value} (hb : Below B w W) (h : Calls Tryd.prog f args W (Did W B L H r)) :
    Calls Tryd.prog f args W fun e w' => e = .returned (.bool r.isSome) ∧ DidW w B L H r w' :=
  h.mono fun _ _ hd => ⟨hd.1, hb.trans hd.2.1, hd.2.2⟩

set_option maxRecDepth 100000 in
set_option maxHeartbeats 1000000 in
theorem do_1 (h : IsH w B L H) (hf : H.Fit) (a b c : Int) :
    Calls Tryd.prog 119 #[.pointer (some ⟨L.hb, 0, none⟩), .agg #[.int .i64 1, .int .i64 a, .int .i64 b, .int .i64 c]] w (Did w B L H (H.fly a b c)) := by
  have K := Lib.hid (fun (W : World) (hW : Below w.heap.size w W) => Did.at (hW.mono h.base) (fly_any (h.below hW) hf a b c))
  clear h hf
  generalize H.fly a b c = r at K ⊢
  by_cases hb0 : b = 0
  · subst hb0
    go_enter Tryd.func119, Tryd.ntmps119
    go_wp2_with (first | (go_at_call 143; refine (K.out _ ((Below.refl _ _).alloc (Nat.le_refl _) _)).mono ?_; rintro e w' ⟨rfl, hd⟩))
    all_goals (go_ret; exact ⟨rfl, hd⟩)
  · go_enter Tryd.func119, Tryd.ntmps119
    go_wp2_with (first | (go_at_call 143; refine (K.out _ ((Below.refl _ _).alloc (Nat.le_refl _) _)).mono ?_; rintro e w' ⟨rfl, hd⟩))
    all_goals (go_ret; exact ⟨rfl, hd⟩)

set_option maxRecDepth 100000 in
set_option maxHeartbeats 1000000 in
theorem do_2 (h : IsH w B L H) (hf : H.Fit) (a b c : Int) :
    Calls Tryd.prog 119 #[.pointer (some ⟨L.hb, 0, none⟩), .agg #[.int .i64 2, .int .i64 a, .int .i64 b, .int .i64 c]] w (Did w B L H (H.fit a b c)) := by
  have K := Lib.hid (fun (W : World) (hW : Below w.heap.size w W) => Did.at (hW.mono h.base) (fit_any (h.below hW) hf a b c))
  clear h hf
  generalize H.fit a b c = r at K ⊢
  by_cases hb0 : b = 0
  · subst hb0
    go_enter Tryd.func119, Tryd.ntmps119
    go_wp2_with (first | (go_at_call 144; refine (K.out _ ((Below.refl _ _).alloc (Nat.le_refl _) _)).mono ?_; rintro e w' ⟨rfl, hd⟩))
    all_goals (go_ret; exact ⟨rfl, hd⟩)
  · go_enter Tryd.func119, Tryd.ntmps119
    go_wp2_with (first | (go_at_call 144; refine (K.out _ ((Below.refl _ _).alloc (Nat.le_refl _) _)).mono ?_; rintro e w' ⟨rfl, hd⟩))
    all_goals (go_ret; exact ⟨rfl, hd⟩)

set_option maxRecDepth 100000 in
set_option maxHeartbeats 1000000 in
theorem do_5 (h : IsH w B L H) (hf : H.Fit) (a b c : Int) :
    Calls Tryd.prog 119 #[.pointer (some ⟨L.hb, 0, none⟩), .agg #[.int .i64 5, .int .i64 a, .int .i64 b, .int .i64 c]] w (Did w B L H (if c = 0 then H.check a b else none)) := by
  by_cases hc : c = 0
  · subst hc
    rw [if_pos rfl]
    have K := Lib.hid (fun (W : World) (hW : Below w.heap.size w W) => Did.at (hW.mono h.base) (check_did (h.below hW) hf a b))
    clear h hf
    generalize H.check a b = r at K ⊢
    by_cases hb0 : b = 0
    · subst hb0
      go_enter Tryd.func119, Tryd.ntmps119
      go_wp2_with (first | (go_at_call 145; refine (K.out _ ((Below.refl _ _).alloc (Nat.le_refl _) _)).mono ?_; rintro e w' ⟨rfl, hd⟩))
      all_goals (go_ret; exact ⟨rfl, hd⟩)
    · go_enter Tryd.func119, Tryd.ntmps119
      go_wp2_with (first | (go_at_call 145; refine (K.out _ ((Below.refl _ _).alloc (Nat.le_refl _) _)).mono ?_; rintro e w' ⟨rfl, hd⟩))
      all_goals (go_ret; exact ⟨rfl, hd⟩)
  · rw [if_neg hc]
    have HH := Lib.hid h
    clear h hf
    go_enter Tryd.func119, Tryd.ntmps119
    go_wp2
    all_goals (go_ret; exact did_no rfl HH.out ((Below.refl _ _).alloc (Nat.le_refl _) _))

set_option maxRecDepth 100000 in
set_option maxHeartbeats 1000000 in
theorem do_other (h : IsH w B L H) (k a b c : Int) (h1 : k ≠ 1) (h2 : k ≠ 2) (h3 : k ≠ 3) (h4 : k ≠ 4) (h5 : k ≠ 5) (h6 : k ≠ 6) :
    Calls Tryd.prog 119 #[.pointer (some ⟨L.hb, 0, none⟩), .agg #[.int .i64 k, .int .i64 a, .int .i64 b, .int .i64 c]] w (Did w B L H none) := by
  have HH := Lib.hid h
  clear h
  go_enter Tryd.func119, Tryd.ntmps119
  go_wp2
  all_goals (go_ret; exact did_no rfl HH.out ((Below.refl _ _).alloc (Nat.le_refl _) _))
end Go.Proofs.YtchnhjffpldpiaaDoor

/- hangar.do, walked: a directive issued. -/
namespace Go.Proofs.YtchnhjffpldpiaaDoor
open Go.RowKit
attribute [local go_sem] eqi_spot eqi_pair gd_spot gd_pair
attribute [local go_sem ↓] Go.wp_at_zero Go.wp_at_succ

variable {w : World} {B : Nat} {L : HL} {H : HS}

theorem orderq {n : Int} {r : Bool} {k : Nat} (h : IsH w B L H) (hf : H.Fit) (hr : H.order n = r) :
    Calls Tryd.prog 84 #[.pointer (some ⟨L.hb, 0, none⟩), .int .i64 n] (w.drewN k) fun e w'' => e = .returned (.bool r) ∧ ∃ m, w'' = w.drewN m :=
  Calls.quiet_of_same ((order_any (h.below (below_drewN (Below.refl _ _) k)) hf n).mono fun _ _ hd => ⟨by rw [← hr]; exact hd.1, hd.2.symm⟩)
theorem partq {n : Int} {r : Bool} {k : Nat} (h : IsH w B L H) (hf : H.Fit) (hr : H.part n = r) :
    Calls Tryd.prog 75 #[.pointer (some ⟨L.hb, 0, none⟩), .int .i64 n] (w.drewN k) fun e w'' => e = .returned (.bool r) ∧ ∃ m, w'' = w.drewN m :=
  Calls.quiet_of_same ((part_any (h.below (below_drewN (Below.refl _ _) k)) hf n).mono fun _ _ hd => ⟨by rw [← hr]; exact hd.1, hd.2.symm⟩)

set_option maxRecDepth 100000 in
set_option maxHeartbeats 2000000 in
theorem do_4 (h : IsH w B L H) (hf : H.Fit) (a b c : Int) :
    Calls Tryd.prog 119 #[.pointer (some ⟨L.hb, 0, none⟩), .agg #[.int .i64 4, .int .i64 a, .int .i64 b, .int .i64 c]] w (Did w B L H (if b = 0 ∧ c = 0 then H.issue a else none)) := by
  by_cases hbc : b = 0 ∧ c = 0
  · obtain ⟨rfl, rfl⟩ := hbc
    rw [if_pos ⟨rfl, rfl⟩]
    cases g : H.order a with
    | false =>
      have hc : H.issue a = none := by simp [HS.issue, g]
      have hb0 : Below w.heap.size w (w.alloc (.cells #[.int .i64 4, .int .i64 a, .int .i64 0, .int .i64 0] 47)) := (Below.refl _ _).alloc (Nat.le_refl _) _
      have K := Lib.hid (fun (k : Nat) => orderq (k := k) (h.below hb0) hf g)
      have HH := Lib.hid (did_no hc h (below_drewN hb0 1))
      have HD := Lib.hid (fun k => did_no hc h (below_drewN hb0 k))
      clear h hf hc hb0
      go_enter Tryd.func119, Tryd.ntmps119
      go_wp2
      go_quiet ((go_at_call 84; exact K.out _))
      go_wp2
      go_ret
      exact HD.out _
    | true =>
      have hi := inB_iff.1 g
      obtain ⟨aa, rfl⟩ : ∃ aa : Nat, a = aa := ⟨a.toNat, by omega⟩
      have haa : aa < H.reg.orders.length := by omega
      have hno := (small_of_valid hf.valid).no
      have hb0 : Below w.heap.size w (w.alloc (.cells #[.int .i64 4, .int .i64 aa, .int .i64 0, .int .i64 0] 47)) := (Below.refl _ _).alloc (Nat.le_refl _) _
      have K := Lib.hid (fun (k : Nat) => orderq (k := k) (h.below hb0) hf g)
      have E : H.issue aa = if H.issued[aa]! = true then none else some { H with issued := H.issued.set aa true } := by
        simp only [HS.issue, g, Bool.true_and, Int.toNat_natCast]
        cases H.issued[aa]! <;> rfl
      have c5 := h.h5
      have ci := h.issued hf aa haa
      have l1 := h.lt .h trivial
      have l2 := h.lt .ib trivial
      have fi := h.frozen .ib trivial aa
      simp only [HL.blk] at l1 l2 fi
      have JB := Lib.hid (h.blocks .ib trivial).2
      have hBw := h.base
      have hz : (aa : Int) < (H.reg.orders.length : Int) := by omega
      have hz0 : (0 : Int) ≤ (aa : Int) := by omega
      have HH := Lib.hid h
      have EE := Lib.hid E
      have HB0 := Lib.hid hb0
      clear h hf g hi haa E hb0
      generalize H.reg.orders.length = no at *
      obtain ⟨is, his⟩ : ∃ is, H.issued[aa]! = is := ⟨_, rfl⟩
      rw [his] at ci
      rw [his] at EE
      clear his
      cases is with
      | true =>
        have hc := EE.out
        rw [if_pos rfl] at hc
        have HD := Lib.hid (fun k => did_no hc HH.out (below_drewN HB0.out k))
        clear hc EE HH HB0
        go_enter Tryd.func119, Tryd.ntmps119
        go_wp2
        go_quiet ((go_at_call 84; exact K.out _))
        go_wp2
        go_ret
        exact HD.out _
      | false =>
        have hc := EE.out
        rw [if_neg (by simp)] at hc
        have HD : Aside (∀ k, Did w B L H (H.issue aa) (.returned (.bool true)) ((((w.alloc (.cells #[.int .i64 4, .int .i64 aa, .int .i64 0, .int .i64 0] 47)).drewN k).drew).setCell ⟨L.ib, aa, none⟩ (.bool true))) := by
          intro k
          rw [hc]
          exact ⟨rfl, ((below_drewN HB0.out k).drew.mono hBw).setCell (p := ⟨L.ib, aa, none⟩) JB.out _, L, rfl, (HH.out.below (below_drewN HB0.out k).drew).putIssued aa true⟩
        clear hc EE HH HB0
        go_enter Tryd.func119, Tryd.ntmps119
        go_wp2
        go_quiet ((go_at_call 84; exact K.out _))
        go_upto_region 18 with (fail)
        refine code_named fun W hW => ?_
        have bW : Below w.heap.size w W := by rw [hW]; exact below_drewN ((Below.refl _ _).alloc (Nat.le_refl _) _) _
        have e5 := (bW.cell (p := ⟨L.hb, 5, none⟩) l1).trans c5
        have ei := (bW.cell (p := ⟨L.ib, aa, none⟩) l2).trans ci
        have ef := (bW.frozen (p := ⟨L.ib, aa, none⟩) l2).trans fi
        have e1 : W.cell? ⟨w.heap.size, 1, none⟩ = some (.int .i64 aa) := by rw [hW]; simp
        have HDW : Aside (Did w B L H (H.issue aa) (.returned (.bool true)) (W.drew.setCell ⟨L.ib, aa, none⟩ (.bool true))) := by
          rw [hW]; exact HD.out _
        clear hW bW c5 ci fi
        go_still_tail 7, (by kernel_rfl)
        change wpList _ _ _ _ _ W.drew
        go_wp2
        go_ret
        exact HDW
  · rw [if_neg hbc]
    have HD := Lib.hid (fun k => did_no (r := none) rfl h (below_drewN ((Below.refl w.heap.size w).alloc (Nat.le_refl _) (.cells #[.int .i64 4, .int .i64 a, .int .i64 b, .int .i64 c] 47)) k))
    clear h hf
    by_cases hb : b = 0
    · subst hb
      have hc : c ≠ 0 := fun e => hbc ⟨rfl, e⟩
      clear hbc
      have hc2 : (c == 0) = false := by simpa using hc
      go_enter Tryd.func119, Tryd.ntmps119
      go_upto_region 16 with (fail)
      try rw [hc2]
      go_quiet (fail)
      go_wp2
      go_ret
      exact HD.out _
    · clear hbc
      have hc2 : (b == 0) = false := by simpa using hb
      go_enter Tryd.func119, Tryd.ntmps119
      go_upto_region 16 with (fail)
      try rw [hc2]
      go_quiet (fail)
      go_wp2
      go_ret
      exact HD.out _
end Go.Proofs.YtchnhjffpldpiaaDoor

/- hangar.do, walked: a part scrapped. -/
namespace Go.Proofs.YtchnhjffpldpiaaDoor
open Go.RowKit
attribute [local go_sem] eqi_spot eqi_pair gd_spot gd_pair
attribute [local go_sem ↓] Go.wp_at_zero Go.wp_at_succ

variable {w : World} {B : Nat} {L : HL} {H : HS}

/-- A part's place set in memory. -/
theorem IsH.putSpot (h : IsH w B L H) (k : Nat) (hk : k < H.parts.length) (m p : Int) :
    IsH ((w.setCell ⟨L.pb k, 4, none⟩ (.int .i64 m)).setCell ⟨L.pb k, 5, none⟩ (.int .i64 p)) B L { H with parts := H.parts.set k { H.parts[k]! with im := m, ip := p } } := by
  have J1 := (h.putPart k hk 4 (.int .i64 m) { H.parts[k]! with im := m } rfl rfl rfl)
  have J2 := (J1.putPart k (by rw [HS.setPart_len]; exact hk) 5 (.int .i64 p) { H.parts[k]! with im := m, ip := p } (by rw [HS.setPart_get _ _ _ _ hk, if_pos rfl]; rfl) (by rw [HS.setPart_get _ _ _ _ hk, if_pos rfl]) (by rw [HS.setPart_get _ _ _ _ hk, if_pos rfl]))
  refine J2.cong ?_
  simp only [HS.setPart, List.set_set]

set_option maxRecDepth 100000 in
set_option maxHeartbeats 2000000 in
theorem do_6 (h : IsH w B L H) (hf : H.Fit) (a b c : Int) :
    Calls Tryd.prog 119 #[.pointer (some ⟨L.hb, 0, none⟩), .agg #[.int .i64 6, .int .i64 a, .int .i64 b, .int .i64 c]] w (Did w B L H (if b = 0 ∧ c = 0 then H.scrap a else none)) := by
  by_cases hbc : b = 0 ∧ c = 0
  · obtain ⟨rfl, rfl⟩ := hbc
    rw [if_pos ⟨rfl, rfl⟩]
    cases g : H.part a with
    | false =>
      have hc : H.scrap a = none := by simp [HS.scrap, g]
      have hb0 : Below w.heap.size w (w.alloc (.cells #[.int .i64 6, .int .i64 a, .int .i64 0, .int .i64 0] 47)) := (Below.refl _ _).alloc (Nat.le_refl _) _
      have K := Lib.hid (fun (k : Nat) => partq (k := k) (h.below hb0) hf g)
      have HD := Lib.hid (fun k => did_no hc h (below_drewN hb0 k))
      clear h hf hc hb0
      go_enter Tryd.func119, Tryd.ntmps119
      go_wp2
      go_quiet ((go_at_call 75; exact K.out _))
      go_wp2
      go_ret
      exact HD.out _
    | true =>
      have hi := inB_iff.1 g
      obtain ⟨nn, rfl⟩ : ∃ nn : Nat, a = nn := ⟨a.toNat, by omega⟩
      have hnn : nn < H.parts.length := by omega
      have hs := small_of_valid hf.valid
      have hnp : H.parts.length ≤ 24 := by rw [hf.parts]; exact hs.np
      have hb0 : Below w.heap.size w (w.alloc (.cells #[.int .i64 6, .int .i64 nn, .int .i64 0, .int .i64 0] 47)) := (Below.refl _ _).alloc (Nat.le_refl _) _
      have K := Lib.hid (fun (k : Nat) => partq (k := k) (h.below hb0) hf g)
      have E : H.scrap nn = if (H.parts[nn]!).im == -1 && (H.parts[nn]!).ip == -1 then some { H with parts := H.parts.set nn { H.parts[nn]! with im := -2, ip := -2 } } else none := by
        simp only [HS.scrap, g, Bool.true_and, Int.toNat_natCast]
      obtain ⟨pv, pcc, hv, hpa⟩ := partsV_eq L H.parts.length
      obtain rfl := hpa (by omega)
      have c4 := h.h4
      rw [hv] at c4
      have hgl := h.glb.lt
      have s0 := h.glb.s0
      have s1 := h.glb.s1
      have t0 := h.glb.c0
      have t1 := h.glb.c1
      have hBw := h.base
      have lg0 : 1 < w.heap.size := by omega
      have lg1 : 0 < w.heap.size := by omega
      have l1 := h.lt .h trivial
      have l2 := h.ltp nn hnn
      have l3 := h.lt .pr (by show 0 < _; omega)
      simp only [HL.blk] at l1 l3
      have q := h.prow nn hnn
      have q4 := h.p4 hnn
      have q5 := h.p5 hnn
      have f4 := h.frp nn hnn 4
      have f5 := h.frp nn hnn 5
      have JB := Lib.hid (h.blocks (.part nn) hnn).2
      have hz : (nn : Int) < (H.parts.length : Int) := by omega
      have hz0 : (0 : Int) ≤ (nn : Int) := by omega
      have HH := Lib.hid h
      have EE := Lib.hid E
      have HB0 := Lib.hid hb0
      have HNN := Lib.hid hnn
      clear h hf g hi hnn E hb0 hs hv hpa
      obtain ⟨im, him⟩ : ∃ im, (H.parts[nn]!).im = im := ⟨_, rfl⟩
      obtain ⟨ip, hip⟩ : ∃ ip, (H.parts[nn]!).ip = ip := ⟨_, rfl⟩
      rw [him] at q4
      rw [hip] at q5
      rw [him, hip] at EE
      clear him hip
      have P9 : ∀ W, Below w.heap.size w W → Aside (IsH ((W.setCell ⟨L.pb nn, 4, none⟩ (.int .i64 (-2))).setCell ⟨L.pb nn, 5, none⟩ (.int .i64 (-2))) B L { H with parts := H.parts.set nn { H.parts[nn]! with im := -2, ip := -2 } }) := fun W hW => (HH.out.below hW).putSpot nn HNN.out _ _
      have P9' := Lib.hid P9
      clear P9
      generalize H.parts.length = np at *
      by_cases hst : im = -1 ∧ ip = -1
      · obtain ⟨rfl, rfl⟩ := hst
        have hc := EE.out
        rw [if_pos (by rfl)] at hc
        have HC := Lib.hid hc
        clear hc EE
        go_enter Tryd.func119, Tryd.ntmps119
        go_upto_region 20 with (fail)
        go_quiet ((go_at_call 75; exact K.out _))
        go_upto_region 22 with (fail)
        refine code_named fun W hW => ?_
        have bW : Below w.heap.size w W := by rw [hW]; exact below_drewN ((Below.refl _ _).alloc (Nat.le_refl _) _) _
        have e4 := (bW.cell (p := ⟨L.hb, 4, none⟩) l1).trans c4
        have eq' := (bW.cell (p := ⟨L.pr, nn, none⟩) l3).trans q
        have eq4 := (bW.cell (p := ⟨L.pb nn, 4, none⟩) l2).trans q4
        have eq5 := (bW.cell (p := ⟨L.pb nn, 5, none⟩) l2).trans q5
        have ef4 := (bW.frozen (p := ⟨L.pb nn, 4, none⟩) l2).trans f4
        have ef5 := (bW.frozen (p := ⟨L.pb nn, 5, none⟩) l2).trans f5
        have et0 := (bW.cell (p := ⟨0, 0, none⟩) lg1).trans t0
        have et1 := (bW.cell (p := ⟨0, 1, none⟩) lg1).trans t1
        have e1 : W.cell? ⟨w.heap.size, 1, none⟩ = some (.int .i64 nn) := by rw [hW]; simp
        have HDW : Aside (Did w B L H (H.scrap nn) (.returned (.bool true)) ((W.drew.setCell ⟨L.pb nn, 4, none⟩ (.int .i64 (-2))).setCell ⟨L.pb nn, 5, none⟩ (.int .i64 (-2)))) := by
          have hc := HC.out
          show Did _ _ _ _ _ _ _
          rw [hc]
          exact ⟨rfl, ((bW.drew.mono hBw).setCell (p := ⟨L.pb nn, 4, none⟩) JB.out _).setCell (p := ⟨L.pb nn, 5, none⟩) JB.out _, L, rfl, P9'.out _ bW.drew⟩
        have HWA := Lib.hid hW
        clear hW bW c4 q q4 q5 f4 f5 t0 t1 s0 s1
        go_still_tail 11, (by kernel_rfl)
        change wpList _ _ _ _ _ W.drew
        go_wp2
        go_ret
        exact HDW
      · have hb : (im == -1 && ip == -1) = false := by
          rw [Bool.and_eq_false_iff]
          simp only [beq_eq_false_iff_ne]
          omega
        have hc := EE.out
        rw [hb, if_neg (by simp)] at hc
        have HD := Lib.hid (fun k => did_no hc HH.out (below_drewN HB0.out k))
        clear hc EE HH HB0 P9'
        go_enter Tryd.func119, Tryd.ntmps119
        go_upto_region 20 with (fail)
        go_quiet ((go_at_call 75; exact K.out _))
        go_wp2
        go_ret
        exact HD.out _
  · rw [if_neg hbc]
    have HD := Lib.hid (fun k => did_no (r := none) rfl h (below_drewN ((Below.refl w.heap.size w).alloc (Nat.le_refl _) (.cells #[.int .i64 6, .int .i64 a, .int .i64 b, .int .i64 c] 47)) k))
    clear h hf
    by_cases hb : b = 0
    · subst hb
      have hc : c ≠ 0 := fun e => hbc ⟨rfl, e⟩
      clear hbc
      have hc2 : (c == 0) = false := by simpa using hc
      go_enter Tryd.func119, Tryd.ntmps119
      go_upto_region 20 with (fail)
      go_quiet (fail)
      go_wp2
      go_ret
      exact HD.out _
    · clear hbc
      have hc2 : (b == 0) = false := by simpa using hb
      go_enter Tryd.func119, Tryd.ntmps119
      go_upto_region 20 with (fail)
      go_quiet (fail)
      go_wp2
      go_ret
      exact HD.out _
end Go.Proofs.YtchnhjffpldpiaaDoor

/- hangar.do, walked: a part taken out; and all works together. -/
namespace Go.Proofs.YtchnhjffpldpiaaDoor
open Go.RowKit
attribute [local go_sem] eqi_spot eqi_pair gd_spot gd_pair
attribute [local go_sem ↓] Go.wp_at_zero Go.wp_at_succ

variable {w : World} {B : Nat} {L : HL} {H : HS}

set_option maxRecDepth 100000 in
set_option maxHeartbeats 2000000 in
theorem do_3 (h : IsH w B L H) (hf : H.Fit) (a b c : Int) :
    Calls Tryd.prog 119 #[.pointer (some ⟨L.hb, 0, none⟩), .agg #[.int .i64 3, .int .i64 a, .int .i64 b, .int .i64 c]] w (Did w B L H (if b = 0 ∧ c = 0 then H.take a else none)) := by
  by_cases hbc : b = 0 ∧ c = 0
  · obtain ⟨rfl, rfl⟩ := hbc
    rw [if_pos ⟨rfl, rfl⟩]
    cases g : H.part a with
    | false =>
      have hc : H.take a = none := by simp [HS.take, g]
      have hb0 : Below w.heap.size w (w.alloc (.cells #[.int .i64 3, .int .i64 a, .int .i64 0, .int .i64 0] 47)) := (Below.refl _ _).alloc (Nat.le_refl _) _
      have K := Lib.hid (fun (k : Nat) => partq (k := k) (h.below hb0) hf g)
      have HD := Lib.hid (fun k => did_no hc h (below_drewN hb0 k))
      clear h hf hc hb0
      go_enter Tryd.func119, Tryd.ntmps119
      go_wp2
      go_quiet ((go_at_call 75; exact K.out _))
      go_wp2
      go_ret
      exact HD.out _
    | true =>
      have hi := inB_iff.1 g
      obtain ⟨nn, rfl⟩ : ∃ nn : Nat, a = nn := ⟨a.toNat, by omega⟩
      have hnn : nn < H.parts.length := by omega
      have hs := small_of_valid hf.valid
      have hnp : H.parts.length ≤ 24 := by rw [hf.parts]; exact hs.np
      have hb0 : Below w.heap.size w (w.alloc (.cells #[.int .i64 3, .int .i64 nn, .int .i64 0, .int .i64 0] 47)) := (Below.refl _ _).alloc (Nat.le_refl _) _
      have K := Lib.hid (fun (k : Nat) => partq (k := k) (h.below hb0) hf g)
      have E : H.take nn = if 0 ≤ (H.parts[nn]!).im then some { H with parts := H.parts.set nn { H.parts[nn]! with im := -1, ip := -1 }, hist := H.hist.set nn (endLast H.flown H.works H.hist[nn]!) } else none := by
        simp only [HS.take, g, Bool.true_and, Int.toNat_natCast, decide_eq_true_eq]
      obtain ⟨pv, pcc, hv, hpa⟩ := partsV_eq L H.parts.length
      obtain rfl := hpa (by omega)
      have c4 := h.h4
      rw [hv] at c4
      have c7 := h.h7
      have c8 := h.h8
      have hgl := h.glb.lt
      have s0 := h.glb.s0
      have s1 := h.glb.s1
      have hBw := h.base
      have lg0 : 1 < w.heap.size := by omega
      have l1 := h.lt .h trivial
      have l2 := h.ltp nn hnn
      have l3 := h.lt .pr (by show 0 < _; omega)
      have l4 := h.lt .hr trivial
      simp only [HL.blk] at l1 l3 l4
      have q := h.prow nn hnn
      have q4 := h.p4 hnn
      have q5 := h.p5 hnn
      have f4 := h.frp nn hnn 4
      have f5 := h.frp nn hnn 5
      have JB := Lib.hid (h.blocks (.part nn) hnn).2
      have hz : (nn : Int) < (H.parts.length : Int) := by omega
      have hz0 : (0 : Int) ≤ (nn : Int) := by omega
      have HH := Lib.hid h
      have HF := Lib.hid hf
      have EE := Lib.hid E
      have HB0 := Lib.hid hb0
      have HNN := Lib.hid hnn
      have HM := hs.m0
      clear h hf g hi hnn E hb0 hs hv hpa
      obtain ⟨im, him⟩ : ∃ im, (H.parts[nn]!).im = im := ⟨_, rfl⟩
      obtain ⟨ip, hip⟩ : ∃ ip, (H.parts[nn]!).ip = ip := ⟨_, rfl⟩
      rw [him] at q4
      rw [hip] at q5
      rw [him] at EE
      have HIM := Lib.hid him
      clear him hip
      by_cases hst : 0 ≤ im
      · have hc := EE.out
        rw [if_pos hst] at hc
        have HC := Lib.hid hc
        clear hc EE
        have hne := HF.out.open' nn HNN.out (by rw [HIM.out]; exact hst)
        obtain ⟨n, hn⟩ : ∃ n, (H.hist[nn]!).length = n + 1 := ⟨(H.hist[nn]!).length - 1, by have := List.length_pos_iff.2 hne; omega⟩
        have hV : histV L H.hist[nn]! nn = .slice (some ⟨L.gb nn, 0, none⟩) (n + 1) (L.gcap nn) := by unfold histV; rw [if_neg hne, hn]
        have hst2 : ¬ im < 0 := by omega
        clear hne
        -- behind the store
        have P9 : ∀ W, Below w.heap.size w W → Aside (IsH ((W.setCell ⟨L.pb nn, 4, none⟩ (.int .i64 (-1))).setCell ⟨L.pb nn, 5, none⟩ (.int .i64 (-1))) B L { H with parts := H.parts.set nn { H.parts[nn]! with im := -1, ip := -1 } }) := fun W hW => (HH.out.below hW).putSpot nn HNN.out _ _
        have F9 := HF.out.spotTo nn HNN.out (-1) (-1) (by omega) (by omega) (by omega)
        have P8 : ∀ W2, IsH W2 B L { H with parts := H.parts.set nn { H.parts[nn]! with im := -1, ip := -1 } } → Aside (Calls Tryd.prog 79 #[.pointer (some ⟨L.hb, 0, none⟩), .slice (some ⟨L.gb nn, 0, none⟩) (n + 1) (L.gcap nn), .int .i64 H.works] W2 fun e w' => e = .returned (.tuple #[]) ∧ Below B W2 w' ∧
            IsH w' B L { H with parts := H.parts.set nn { H.parts[nn]! with im := -1, ip := -1 }, hist := H.hist.set nn (endLast H.flown H.works H.hist[nn]!) }) :=
          fun W2 h2 => end_any h2 F9 nn (by show nn < (H.parts.set nn _).length; rw [List.length_set]; exact HNN.out) n hn H.works
        have V8 := Lib.hid (fun (W2 : World) (h2 : IsH W2 B L { H with parts := H.parts.set nn { H.parts[nn]! with im := -1, ip := -1 } }) => (h2.hrc nn (by show nn < (H.parts.set nn _).length; rw [List.length_set]; exact HNN.out)).trans (congrArg some hV))
        have V7 := Lib.hid (fun (W2 : World) (h2 : IsH W2 B L { H with parts := H.parts.set nn { H.parts[nn]! with im := -1, ip := -1 } }) => h2.h7)
        have V6 := Lib.hid (fun (W2 : World) (h2 : IsH W2 B L { H with parts := H.parts.set nn { H.parts[nn]! with im := -1, ip := -1 } }) => h2.h8)
        have P9' := Lib.hid P9
        have P8' := Lib.hid P8
        clear P9 P8 F9 hV hn
        simp only [List.length_set] at V6
        generalize H.parts.length = np at *
        generalize hwk : H.works = wk at *
        go_enter Tryd.func119, Tryd.ntmps119
        go_upto_region 11 with (fail)
        go_quiet ((go_at_call 75; exact K.out _))
        go_upto_region 13 with (fail)
        refine code_named fun W hW => ?_
        have bW : Below w.heap.size w W := by rw [hW]; exact below_drewN ((Below.refl _ _).alloc (Nat.le_refl _) _) _
        have e4 := (bW.cell (p := ⟨L.hb, 4, none⟩) l1).trans c4
        have eq' := (bW.cell (p := ⟨L.pr, nn, none⟩) l3).trans q
        have eq4 := (bW.cell (p := ⟨L.pb nn, 4, none⟩) l2).trans q4
        have eq5 := (bW.cell (p := ⟨L.pb nn, 5, none⟩) l2).trans q5
        have ef4 := (bW.frozen (p := ⟨L.pb nn, 4, none⟩) l2).trans f4
        have ef5 := (bW.frozen (p := ⟨L.pb nn, 5, none⟩) l2).trans f5
        have et0 := (bW.cell (p := ⟨1, 0, none⟩) lg0).trans s0
        have et1 := (bW.cell (p := ⟨1, 1, none⟩) lg0).trans s1
        have e1 : W.cell? ⟨w.heap.size, 1, none⟩ = some (.int .i64 nn) := by rw [hW]; simp
        have I2 := P9'.out _ bW.drew
        have B2 := ((bW.drew.mono hBw).setCell (p := ⟨L.pb nn, 4, none⟩) JB.out (.int .i64 (-1))).setCell (p := ⟨L.pb nn, 5, none⟩) JB.out (.int .i64 (-1))
        have d1 : ((W.drew.setCell ⟨L.pb nn, 4, none⟩ (.int .i64 (-1))).setCell ⟨L.pb nn, 5, none⟩ (.int .i64 (-1))).cell? ⟨w.heap.size, 1, none⟩ = some (.int .i64 nn) := by
          have hne4 : (⟨w.heap.size, 1, none⟩ : Addr) ≠ ⟨L.pb nn, 4, none⟩ := by intro e; have := congrArg Addr.block e; simp only at this; omega
          have hne5 : (⟨w.heap.size, 1, none⟩ : Addr) ≠ ⟨L.pb nn, 5, none⟩ := by intro e; have := congrArg Addr.block e; simp only at this; omega
          exact (World.cell?_setCell_other (h := Ne.symm hne5) ..).trans ((World.cell?_setCell_other (h := Ne.symm hne4) ..).trans e1)
        have I2' := Lib.hid I2
        have B2' := Lib.hid B2
        clear hW bW c4 q q4 q5 f4 f5 s0 s1 I2 B2
        go_still_tail 11, (by kernel_rfl)
        change wpList _ _ _ _ _ W.drew
        go_upto_region 14 with (fail)
        refine code_named fun W2 hW2 => ?_
        have d2 : W2.cell? ⟨w.heap.size, 1, none⟩ = some (.int .i64 nn) := by rw [hW2]; exact d1
        clear d1
        have i2 : IsH W2 B L { H with parts := H.parts.set nn { H.parts[nn]! with im := -1, ip := -1 }, works := wk } := by rw [hW2]; exact I2'.out
        have b2 : Below B w W2 := by rw [hW2]; exact B2'.out
        have v8 := V8.out W2 i2
        have v7 := V7.out W2 i2
        have v6 := V6.out W2 i2
        have P7 := Lib.hid (P8'.out W2.drew i2.drew)
        have b2' := Lib.hid b2
        clear hW2 i2 b2 V8 V7 V6 P8' P9' I2' B2' e4 eq' eq4 eq5 ef4 ef5 et0 et1 e1
        go_still_tail 13, (by kernel_rfl)
        change wpList _ _ _ _ _ W2.drew
        go_wp2_with (first | (go_at_call 79; refine P7.out.mono ?_; rintro e w' ⟨rfl, hb9, hi9⟩))
        have hb8 := Lib.hid hb9
        have hi8 := Lib.hid hi9
        clear hb9 hi9
        go_wp2
        go_ret
        rw [HC.out]
        exact ⟨rfl, b2'.out.drew.trans hb8.out, L, rfl, hi8.out⟩
      · have hst2 : im < 0 := by omega
        have hc := EE.out
        rw [if_neg hst] at hc
        have HD := Lib.hid (fun k => did_no hc HH.out (below_drewN HB0.out k))
        clear hc EE HH HB0 HF
        generalize H.parts.length = np at *
        go_enter Tryd.func119, Tryd.ntmps119
        go_upto_region 11 with (fail)
        go_quiet ((go_at_call 75; exact K.out _))
        go_wp2
        go_ret
        exact HD.out _
  · rw [if_neg hbc]
    have HD := Lib.hid (fun k => did_no (r := none) rfl h (below_drewN ((Below.refl w.heap.size w).alloc (Nat.le_refl _) (.cells #[.int .i64 3, .int .i64 a, .int .i64 b, .int .i64 c] 47)) k))
    clear h hf
    by_cases hb : b = 0
    · subst hb
      have hc : c ≠ 0 := fun e => hbc ⟨rfl, e⟩
      clear hbc
      have hc2 : (c == 0) = false := by simpa using hc
      go_enter Tryd.func119, Tryd.ntmps119
      go_upto_region 11 with (fail)
      go_quiet (fail)
      go_wp2
      go_ret
      exact HD.out _
    · clear hbc
      have hc2 : (b == 0) = false := by simpa using hb
      go_enter Tryd.func119, Tryd.ntmps119
      go_upto_region 11 with (fail)
      go_quiet (fail)
      go_wp2
      go_ret
      exact HD.out _

/-- **hangar.do, whatever the work.** -/
theorem do_any (h : IsH w B L H) (hf : H.Fit) (x : WorkR) :
    Calls Tryd.prog 119 #[.pointer (some ⟨L.hb, 0, none⟩), .agg #[.int .i64 x.kind, .int .i64 x.a, .int .i64 x.b, .int .i64 x.c]] w (Did w B L H (H.doWork x)) := by
  obtain ⟨k, a, b, c⟩ := x
  simp only [HS.doWork]
  by_cases h1 : k = 1
  · subst h1; exact do_1 h hf a b c
  rw [if_neg h1]
  by_cases h2 : k = 2
  · subst h2; exact do_2 h hf a b c
  rw [if_neg h2]
  by_cases h5 : k = 5
  · subst h5; exact do_5 h hf a b c
  rw [if_neg h5]
  by_cases h3 : k = 3
  · subst h3; exact do_3 h hf a b c
  rw [if_neg h3]
  by_cases h4 : k = 4
  · subst h4; exact do_4 h hf a b c
  rw [if_neg h4]
  by_cases h6 : k = 6
  · subst h6; exact do_6 h hf a b c
  rw [if_neg h6]
  exact do_other h k a b c h1 h2 h3 h4 h5 h6
end Go.Proofs.YtchnhjffpldpiaaDoor

/- parts.open -/
namespace Go.Proofs.YtchnhjffpldpiaaDoor
open Go.RowKit
attribute [local go_sem ↓] Go.wp_at_zero Go.wp_at_succ

/-- What 'open' leaves. -/
def Opened (w : World) (res : HS ⊕ (Int × Int)) (e : Ending) (w' : World) : Prop :=
  Below w.heap.size w w' ∧ match res with
  | .inl H => ∃ L B, w.heap.size ≤ B ∧ e = .returned (.tuple #[.pointer (some ⟨L.hb, 0, none⟩), .int .i64 0, .int .i64 0]) ∧ IsH w' B L H ∧ H.Fit
  | .inr (i, er) => e = .returned (.tuple #[.pointer none, .int .i64 i, .int .i64 er])

theorem Opened.no {w w' : World} {i er : Int} (hb : Below w.heap.size w w') : Opened w (.inr (i, er)) (.returned (.tuple #[.pointer none, .int .i64 i, .int .i64 er])) w' := ⟨hb, rfl⟩

theorem valid_q (r : RegR) (v : Bool) (hv : validReg r = v) (ka pa oa : Option Addr) (nk kc np pc no oc : Nat) (m : Int) (hm : r.machines = m) (w : World) (B : Nat) (hB : B ≤ w.heap.size) (hR : RegRd w B ka pa oa nk np no r) :
    Calls Tryd.prog 117 #[.agg #[.slice ka nk kc, .slice pa np pc, .int .i64 m, .slice oa no oc]] w fun e w' =>
      e = .returned (.bool v) ∧ Below w.heap.size w w' := by
  subst hv hm; exact valid_any r ka pa oa nk kc np pc no oc w B hB hR

variable {r : RegR} {l : List WorkR} {ka pa oa la : Option Addr} {nk kc np pc no oc nl lc : Nat} {w : World}

set_option maxHeartbeats 1000000 in
theorem open_bad (hv : validReg r = false) (hR : RegRd w w.heap.size ka pa oa nk np no r) :
    Calls Tryd.prog 64 #[.agg #[.slice ka nk kc, .slice pa np pc, .int .i64 r.machines, .slice oa no oc], .slice la nl lc] w (Opened w (.inr (0, 90))) := by
  obtain ⟨m, hm⟩ : ∃ m, r.machines = m := ⟨_, rfl⟩
  have V := Lib.hid (fun (W : World) (hW : Below w.heap.size w W) => valid_q r false hv ka pa oa nk kc np pc no oc m hm W w.heap.size hW.size (hR.below hW))
  rw [hm]
  clear hv hR hm
  go_enter Tryd.func64, Tryd.ntmps64
  go_wp2_with (first | (go_at_call 117; refine (V.out _ ((Below.refl _ _).alloc (Nat.le_refl _) _)).mono ?_; rintro e w' ⟨rfl, hb⟩))
  go_ret3
  exact Opened.no ((((Below.refl _ _).alloc (Nat.le_refl _) _)).trans (hb.mono (by simp)))

set_option maxHeartbeats 1000000 in
theorem open_many (hv : validReg r = true) (hl : 200 < (nl : Int)) (hR : RegRd w w.heap.size ka pa oa nk np no r) :
    Calls Tryd.prog 64 #[.agg #[.slice ka nk kc, .slice pa np pc, .int .i64 r.machines, .slice oa no oc], .slice la nl lc] w (Opened w (.inr (0, 2))) := by
  obtain ⟨m, hm⟩ : ∃ m, r.machines = m := ⟨_, rfl⟩
  have V := Lib.hid (fun (W : World) (hW : Below w.heap.size w W) => valid_q r true hv ka pa oa nk kc np pc no oc m hm W w.heap.size hW.size (hR.below hW))
  rw [hm]
  clear hv hR hm
  go_enter Tryd.func64, Tryd.ntmps64
  go_wp2_with (first | (go_at_call 117; refine (V.out _ ((Below.refl _ _).alloc (Nat.le_refl _) _)).mono ?_; rintro e w' ⟨rfl, hb⟩))
  go_ret3
  exact Opened.no ((((Below.refl _ _).alloc (Nat.le_refl _) _)).trans (hb.mono (by simp)))

theorem bcell {W w1 : World} (hb : Below W.heap.size W w1) : (∀ b o, b < W.heap.size → w1.cell? ⟨b, o, none⟩ = W.cell? ⟨b, o, none⟩) ∧ (∀ b o, b < W.heap.size → w1.frozen? ⟨b, o, none⟩ = W.frozen? ⟨b, o, none⟩) :=
  ⟨fun b o h => hb.cell (p := ⟨b, o, none⟩) h, fun b o h => hb.frozen (p := ⟨b, o, none⟩) h⟩

/-- The answer of 'open' by what the works come to. -/
def opened : HS ⊕ Nat → HS ⊕ (Int × Int)
  | .inl H => .inl H
  | .inr i => .inr (i, 91)

theorem runWorks_drop (H : HS) (l : List WorkR) (k : Nat) (x : WorkR) (hk : k < l.length) (hx : l[k]! = x) :
    runWorks H (l.drop k) k = match H.doWork x with | some H' => runWorks { H' with works := H'.works + 1 } (l.drop (k + 1)) (k + 1) | none => .inr k := by
  rw [List.drop_eq_getElem_cons hk, ← getElem!_pos l k hk, hx]
  rfl

/-- What holds between two works. -/
structure AtWork (w wr : World) (r : RegR) (l : List WorkR) (hb k : Nat) (R : HS ⊕ Nat) (L : HL) (B : Nat) (H : HS) : Prop where
  hb : L.hb = hb
  lies : IsH wr B L H
  low : w.heap.size ≤ B
  fit : H.Fit
  op : H.Open
  works : H.works = k
  left : runWorks H (l.drop k) k = R
  bel : Below w.heap.size w wr

theorem AtWork.next {w wr wd : World} {r : RegR} {l : List WorkR} {hb k : Nat} {R : HS ⊕ Nat} {L : HL} {B : Nat} {H H1 : HS} (h : AtWork w wr r l hb k R L B H) (hd : DidW wr B L H (some H1) wd) (st : Stp H H1) (hr : runWorks H (l.drop k) k = runWorks { H1 with works := H1.works + 1 } (l.drop (k + 1)) (k + 1)) (hk : k < 200) :
    wd.cell? ⟨hb, 7, none⟩ = some (.int .i64 k) ∧ wd.frozen? ⟨hb, 7, none⟩ = false ∧ ∃ L1, AtWork w (wd.setCell ⟨hb, 7, none⟩ (.int .i64 ((k : Int) + 1))) r l hb (k + 1) R L1 B H1.bump := by
  obtain ⟨hbel, L1, e1, i1⟩ := hd
  have i1 : IsH wd B L1 H1 := i1
  have e2 : L1.hb = hb := e1.trans h.hb
  have ew : H1.works = k := st.works.trans h.works
  have hw := h.works
  refine ⟨?_, ?_, L1, ?_⟩
  · rw [← e2, i1.h7, ew]
  · rw [← e2]; exact i1.frozen .h trivial 7
  · have hkp := st.keep h.fit h.op (by omega)
    have hp := i1.putWorks ((k : Int) + 1)
    rw [e2] at hp
    refine ⟨e2, ?_, h.low, hkp.1, hkp.2, ?_, ?_, ?_⟩
    · have : H1.bump = { H1 with works := (k : Int) + 1 } := by unfold HS.bump; rw [ew]
      rw [this]; exact hp
    · show H1.works + 1 = _; rw [ew]; push_cast; rfl
    · rw [← h.left, hr]; rfl
    · refine Below.setCell (h.bel.trans (hbel.mono h.low)) ?_ _
      have := (i1.blocks .h trivial).2
      simp only [HL.blk] at this
      have := h.low
      show w.heap.size ≤ hb
      omega

set_option maxRecDepth 100000 in
set_option maxHeartbeats 2000000 in
theorem open_go (hv : validReg r = true) (hn : (nl : Int) ≤ 200) (hG : Glb w w.heap.size) (hR : RegRd w w.heap.size ka pa oa nk np no r) (hL : Rd encWork 4 w w.heap.size la nl l) :
    Calls Tryd.prog 64 #[.agg #[.slice ka nk kc, .slice pa np pc, .int .i64 r.machines, .slice oa no oc], .slice la nl lc] w (Opened w (opened (runWorks (newHS r) l 0))) := by
  have sm := small_of_valid hv
  obtain ⟨m, hm⟩ : ∃ m : Nat, r.machines = (m : Int) := ⟨r.machines.toNat, by have := sm.m0; omega⟩
  have V := Lib.hid (fun (W : World) (hW : Below w.heap.size w W) => valid_q r true hv ka pa oa nk kc np pc no oc m hm W w.heap.size hW.size (hR.below hW))
  have e1 := hR.kinds.len
  have e2 := hR.parts.len
  have e3 := hR.orders.len
  have NH := Lib.hid (fun (W : World) (hW : Below w.heap.size w W) => by
    have := newHangar_any r ka pa oa kc pc oc m W ((hG.below hW).up hW.size) (by rw [← e1, ← e2, ← e3]; exact (hR.below hW).up hW.size) sm.np sm.no (by have := sm.m1; omega) hm
    rw [← e1, ← e2, ← e3] at this
    exact this)
  obtain ⟨R, hRR⟩ : ∃ R, runWorks (newHS r) l 0 = R := ⟨_, rfl⟩
  obtain ⟨f0, o0⟩ := new_fit r hv
  have N0 := Lib.hid (And.intro f0 o0)
  have HRD := Lib.hid hL
  have HRR := Lib.hid hRR
  have HLL := Lib.hid hL.len
  rw [hRR, hm]
  clear hv hG hR hL hm sm e1 e2 e3 hRR f0 o0
  go_enter Tryd.func64, Tryd.ntmps64
  go_wp2_with (first
    | (go_at_call 117; refine (V.out _ ((Below.refl _ _).alloc (Nat.le_refl _) _)).mono ?_; rintro e wv ⟨rfl, hbv⟩; obtain ⟨hcv, hfv⟩ := bcell hbv)
    | (go_at_call 118; refine (NH.out _ ((((Below.refl _ _).alloc (Nat.le_refl _) _)).trans (hbv.mono (by simp)))).mono ?_; rintro e wn ⟨L0, rfl, hbn, hin⟩))
  have A0 : Aside (AtWork w wn r l L0.hb 0 R L0 (wv.heap.size + 1) (newHS r)) := by
    have b1 : Below w.heap.size w wv := (((Below.refl _ _).alloc (Nat.le_refl _) _)).trans (hbv.mono (by simp))
    exact ⟨rfl, hin, by have := b1.size; omega, N0.out.1, N0.out.2, rfl, HRR.out, b1.trans (hbn.mono b1.size)⟩
  obtain ⟨hb, hhb⟩ : ∃ hb, L0.hb = hb := ⟨_, rfl⟩
  rw [hhb] at A0 ⊢
  clear hhb hin hbn hbv hcv hfv
  go_loopg [4, 19] nl (fun gg s4 s19 wr => ∃ (k : Nat) (L : HL) (B : Nat) (H : HS), k ≤ nl ∧ nl - k ≤ gg ∧ s4 = .pointer (some ⟨hb, 0, none⟩) ∧ s19 = .int .i64 k ∧ Aside (AtWork w wr r l hb k R L B H))
  case atStart => exact ⟨0, L0, _, newHS r, Nat.zero_le _, by omega, rfl, rfl, A0⟩
  case round =>
    obtain ⟨k, L, B, H, hk, hg, rfl, rfl, AW⟩ := hrel
    by_cases hlt : k < nl
    · obtain ⟨lb, loff, hla, hlc⟩ := HRD.out.ex
      obtain ⟨rfl, hlb⟩ := hla (by omega)
      have q0 := (AW.out.bel.cell (p := ⟨lb, loff + k * 4, none⟩) hlb).trans (hlc k hlt 0 _ rfl)
      have q1 := (AW.out.bel.cell (p := ⟨lb, loff + k * 4 + 1, none⟩) hlb).trans (hlc k hlt 1 _ rfl)
      have q2 := (AW.out.bel.cell (p := ⟨lb, loff + k * 4 + 2, none⟩) hlb).trans (hlc k hlt 2 _ rfl)
      have q3 := (AW.out.bel.cell (p := ⟨lb, loff + k * 4 + 3, none⟩) hlb).trans (hlc k hlt 3 _ rfl)
      have hltz : (k : Int) < (nl : Int) := by omega
      have hk0 : (0 : Int) ≤ (k : Int) := by omega
      clear hla hlc
      obtain ⟨x, hx⟩ : ∃ x, l[k]! = x := ⟨_, rfl⟩
      rw [hx] at q0 q1 q2 q3
      have hD := do_any AW.out.lies AW.out.fit x
      have hrun := runWorks_drop H l k x (by rw [← HLL.out]; exact hlt) hx
      obtain ⟨xk, xa, xb, xc⟩ := x
      simp only at q0 q1 q2 q3
      have KD : Hid (∀ W : World, Below wr.heap.size wr W → Calls Tryd.prog 119 #[.pointer (some ⟨L.hb, 0, none⟩), .agg #[.int .i64 xk, .int .i64 xa, .int .i64 xb, .int .i64 xc]] W fun e w' => e = .returned (.bool (H.doWork ⟨xk, xa, xb, xc⟩).isSome) ∧ DidW wr B L H (H.doWork ⟨xk, xa, xb, xc⟩) w') := Lib.hid (fun (W : World) (hW : Below wr.heap.size wr W) => Did.at (B := B) (w := wr) (hW.mono AW.out.lies.base) (do_any (AW.out.lies.below hW) AW.out.fit ⟨xk, xa, xb, xc⟩))
      have ehb : L.hb = hb := AW.out.hb
      rw [ehb] at KD
      have EHB := Lib.hid ehb
      clear hx hD ehb
      cases hd : H.doWork ⟨xk, xa, xb, xc⟩ with
      | none =>
        rw [hd] at hrun KD
        have HRUN := Lib.hid hrun
        clear hrun hd
        go_wp2_with (first | (go_at_call 119; refine (KD.out _ ((Below.refl _ _).alloc (Nat.le_refl _) _)).mono ?_; rintro e wd ⟨rfl, hdd⟩))
        go_ret3
        rw [← AW.out.left, HRUN.out]
        exact Opened.no (AW.out.bel.trans (hdd.1.mono AW.out.low))
      | some H1 =>
        have st := work_stp AW.out.fit _ hd
        rw [hd] at hrun KD
        have HRUN := Lib.hid hrun
        have ST := Lib.hid st
        clear hrun hd st
        go_wp2_with (first | (go_at_call 119; refine (KD.out _ ((Below.refl _ _).alloc (Nat.le_refl _) _)).mono ?_; rintro e wd ⟨rfl, hdd⟩; obtain ⟨c7, f7, L1, a1⟩ := AW.out.next hdd ST.out HRUN.out (by omega); have A1 := Lib.hid a1; clear a1 hdd))
        go_roundg (nl - (k + 1))
        case rel => exact ⟨k + 1, L1, B, H1.bump, by omega, by omega, rfl, by go_num, A1.out⟩
        case measure => omega
    · have hltz : ¬ (k : Int) < (nl : Int) := by omega
      have : k = nl := by omega
      subst this
      go_wp2
      go_ret3
      have e : R = .inl H := by
        have h := AW.out.left
        have h2 : l.drop k = [] := List.drop_eq_nil_of_le (by have := HLL.out; omega)
        rw [h2] at h
        exact h.symm
      rw [e]
      exact ⟨AW.out.bel, L, B, AW.out.low, by rw [AW.out.hb]; rfl, AW.out.lies, AW.out.fit⟩

theorem open_any (hG : Glb w w.heap.size) (hR : RegRd w w.heap.size ka pa oa nk np no r) (hL : Rd encWork 4 w w.heap.size la nl l) :
    Calls Tryd.prog 64 #[.agg #[.slice ka nk kc, .slice pa np pc, .int .i64 r.machines, .slice oa no oc], .slice la nl lc] w (Opened w (openH r l)) := by
  unfold openH
  cases hv : validReg r with
  | false => exact open_bad hv hR
  | true =>
    rw [if_pos rfl]
    have hlen := hL.len
    by_cases hl : l.length ≤ 200
    · rw [if_pos hl]
      refine (open_go hv (by omega) hG hR hL).mono fun e w' h => ?_
      cases hr : runWorks (newHS r) l 0 <;> rw [hr] at h <;> exact h
    · rw [if_neg hl]
      exact open_many hv (by omega) hR
end Go.Proofs.YtchnhjffpldpiaaDoor

/- parts.Longest -/
namespace Go.Proofs.YtchnhjffpldpiaaDoor
open Go.RowKit
attribute [local go_sem ↓] Go.wp_at_zero Go.wp_at_succ

/-- A register and works as they lie in a world: what is read below its heap's size. -/
structure Given (w : World) (B : Nat) (ka pa oa la : Option Addr) (nk np no nl : Nat) (r : RegR) (l : List WorkR) : Prop where
  low : B ≤ w.heap.size
  glb : Glb w B
  reg : RegRd w B ka pa oa nk np no r
  works : Rd encWork 4 w B la nl l
theorem Given.below {w W : World} {B : Nat} {ka pa oa la : Option Addr} {nk np no nl : Nat} {r : RegR} {l : List WorkR} (h : Given w B ka pa oa la nk np no nl r l) (hb : Below B w W) : Given W B ka pa oa la nk np no nl r l :=
  ⟨Nat.le_trans h.low hb.size, h.glb.below hb, h.reg.below hb, h.works.below hb⟩

variable {r : RegR} {l : List WorkR} {ka pa oa la : Option Addr} {nk kc np pc no oc nl lc : Nat} {w : World} {B : Nat}

theorem openH_err {i er : Int} (h : openH r l = .inr (i, er)) : er = 90 ∨ er = 2 ∨ er = 91 := by
  unfold openH at h
  split at h
  · split at h
    · split at h
      · cases h
      · injection h with h; injection h with _ h; omega
    · injection h with h; injection h with _ h; omega
  · injection h with h; injection h with _ h; omega

def regV (ka pa oa : Option Addr) (nk kc np pc no oc : Nat) (m : Int) : Value := .agg #[.slice ka nk kc, .slice pa np pc, .int .i64 m, .slice oa no oc]

/-- 'open' where it stops. -/
theorem open_err (h : Given w B ka pa oa la nk np no nl r l) {m : Int} (hm : r.machines = m) {i er : Int} (he : openH r l = .inr (i, er)) :
    ∀ W, Below w.heap.size w W → Calls Tryd.prog 64 #[.agg #[.slice ka nk kc, .slice pa np pc, .int .i64 m, .slice oa no oc], .slice la nl lc] W fun e w' =>
      e = .returned (.tuple #[.pointer none, .int .i64 i, .int .i64 er]) ∧ Below W.heap.size W w' := by
  intro W hW
  subst hm
  have h' := h.below (hW.mono h.low)
  refine (open_any (h'.glb.up h'.low) (h'.reg.up h'.low) (h'.works.up h'.low)).mono fun e w' ho => ?_
  rw [he] at ho
  exact ⟨ho.2, ho.1⟩
/-- 'open' where it does not. -/
theorem open_ok (h : Given w B ka pa oa la nk np no nl r l) {m : Int} (hm : r.machines = m) {H : HS} (he : openH r l = .inl H) :
    ∀ W, Below w.heap.size w W → Calls Tryd.prog 64 #[.agg #[.slice ka nk kc, .slice pa np pc, .int .i64 m, .slice oa no oc], .slice la nl lc] W fun e w' =>
      ∃ L BB, W.heap.size ≤ BB ∧ e = .returned (.tuple #[.pointer (some ⟨L.hb, 0, none⟩), .int .i64 0, .int .i64 0]) ∧ Below W.heap.size W w' ∧ Aside (IsH w' BB L H ∧ H.Fit) := by
  intro W hW
  subst hm
  have h' := h.below (hW.mono h.low)
  refine (open_any (h'.glb.up h'.low) (h'.reg.up h'.low) (h'.works.up h'.low)).mono fun e w' ho => ?_
  rw [he] at ho
  obtain ⟨hb, L, BB, h1, h2, h3, h4⟩ := ho
  exact ⟨L, BB, h1, h2, hb, h3, h4⟩

def longestR (o : HS ⊕ (Int × Int)) (m c : Int) : Int × Int :=
  match o with
  | .inr p => (0, p.2)
  | .inl H => if H.machine m && inB c 0 100 then (if H.longest m c < 0 then (0, 3) else (H.longest m c, 0)) else (0, 1)

theorem ret2_int {a b c d : Int} (h1 : a = c) (h2 : b = d) : Ending.returned (.tuple #[.int .i64 a, .int .i64 b]) = .returned (.tuple #[.int .i64 c, .int .i64 d]) := by rw [h1, h2]

set_option maxRecDepth 100000 in
set_option maxHeartbeats 2000000 in
theorem longest_err (h : Given w B ka pa oa la nk np no nl r l) (m c : Int) {i er : Int} (he : openH r l = .inr (i, er)) :
    Calls Tryd.prog 23 #[.agg #[.slice ka nk kc, .slice pa np pc, .int .i64 r.machines, .slice oa no oc], .slice la nl lc, .int .i64 m, .int .i64 c] w fun e w' =>
      e = .returned (.tuple #[.int .i64 0, .int .i64 er]) ∧ Below w.heap.size w w' := by
  obtain ⟨mm, hm⟩ : ∃ mm, r.machines = mm := ⟨_, rfl⟩
  have O := Lib.hid (open_err (kc := kc) (pc := pc) (oc := oc) (lc := lc) h hm he)
  rw [hm]
  have hz := openH_err he
  clear h hm he
  rcases hz with rfl | rfl | rfl
  all_goals
    go_enter Tryd.func23, Tryd.ntmps23
    go_wp2_with (first | (go_at_call 64; refine (O.out _ ((Below.refl _ _).alloc (Nat.le_refl _) _)).mono ?_; rintro e wo ⟨rfl, hbo⟩))
    go_ret2
    exact ⟨rfl, (((Below.refl _ _).alloc (Nat.le_refl _) _)).trans (hbo.mono (by simp))⟩

theorem machine_q {L : HL} {H : HS} (h : IsH w B L H) (hf : H.Fit) (n : Int) (v : Bool) (hv : H.machine n = v) :
    Calls Tryd.prog 65 #[.pointer (some ⟨L.hb, 0, none⟩), .int .i64 n] w fun e w' => e = .returned (.bool v) ∧ w = w' := by
  subst hv
  exact machine_any h hf n
theorem longest_q {L : HL} {H : HS} (h : IsH w B L H) (hf : H.Fit) (m c n : Int) (hn : H.longest m c = n) :
    Calls Tryd.prog 67 #[.pointer (some ⟨L.hb, 0, none⟩), .int .i64 m, .int .i64 c] w fun e w' => e = .returned (.int .i64 n) ∧ Below w.heap.size w w' := by
  subst hn
  exact longest_any h hf m c

set_option maxRecDepth 100000 in
set_option maxHeartbeats 2000000 in
theorem longest_ok (h : Given w B ka pa oa la nk np no nl r l) (m c : Int) {H : HS} (he : openH r l = .inl H) (p : Int × Int) (hp : longestR (.inl H) m c = p) :
    Calls Tryd.prog 23 #[.agg #[.slice ka nk kc, .slice pa np pc, .int .i64 r.machines, .slice oa no oc], .slice la nl lc, .int .i64 m, .int .i64 c] w fun e w' =>
      e = .returned (.tuple #[.int .i64 p.1, .int .i64 p.2]) ∧ Below w.heap.size w w' := by
  obtain ⟨mm, hm⟩ : ∃ mm, r.machines = mm := ⟨_, rfl⟩
  have O := Lib.hid (open_ok (kc := kc) (pc := pc) (oc := oc) (lc := lc) h hm he)
  rw [hm]
  clear h hm he
  cases hv : H.machine m with
  | false =>
    obtain rfl : p = (0, 1) := by rw [← hp]; simp [longestR, hv]
    have HV := Lib.hid hv
    clear hv hp
    go_enter Tryd.func23, Tryd.ntmps23
    go_wp2_with (first
      | (go_at_call 64; refine (O.out _ ((Below.refl _ _).alloc (Nat.le_refl _) _)).mono ?_; rintro e wo ⟨L, BB, hBB, rfl, hbo, hi⟩)
      | (go_at_call 65; refine (machine_q hi.out.1 hi.out.2 _ false HV.out).mono ?_; rintro e w' ⟨rfl, rfl⟩))
    go_ret2
    exact ⟨rfl, (((Below.refl _ _).alloc (Nat.le_refl _) _)).trans (hbo.mono (by simp))⟩
  | true =>
    cases hc : inB c 0 100 with
    | false =>
      obtain rfl : p = (0, 1) := by rw [← hp]; simp [longestR, hv, hc]
      have HV := Lib.hid hv
      have HC := Lib.hid hc
      clear hc hv hp
      go_enter Tryd.func23, Tryd.ntmps23
      go_wp2_with (first
        | (go_at_call 64; refine (O.out _ ((Below.refl _ _).alloc (Nat.le_refl _) _)).mono ?_; rintro e wo ⟨L, BB, hBB, rfl, hbo, hi⟩)
        | (go_at_call 65; refine (machine_q hi.out.1 hi.out.2 _ true HV.out).mono ?_; rintro e w' ⟨rfl, rfl⟩)
        | (go_at_call 66; refine (within_r _ _ _ false HC.out _).mono ?_; rintro e w' ⟨rfl, rfl⟩))
      go_ret2
      exact ⟨rfl, (((Below.refl _ _).alloc (Nat.le_refl _) _)).trans (hbo.mono (by simp))⟩
    | true =>
      obtain ⟨n, hn⟩ : ∃ n, H.longest m c = n := ⟨_, rfl⟩
      have hpe : p = if n < 0 then (0, 3) else (n, 0) := by rw [← hp]; simp [longestR, hv, hc, hn]
      have HV := Lib.hid hv
      have HC := Lib.hid hc
      have HN := Lib.hid hn
      clear hn hc hv hp
      have hpp : (n < 0 ∧ p = (0, 3)) ∨ (0 ≤ n ∧ p = (n, 0)) := by
        by_cases h0 : n < 0
        · exact .inl ⟨h0, by rw [hpe, if_pos h0]⟩
        · exact .inr ⟨by omega, by rw [hpe, if_neg h0]⟩
      clear hpe
      rcases hpp with ⟨h0, rfl⟩ | ⟨h0, rfl⟩
      all_goals
        go_enter Tryd.func23, Tryd.ntmps23
        go_wp2_with (first
          | (go_at_call 64; refine (O.out _ ((Below.refl _ _).alloc (Nat.le_refl _) _)).mono ?_; rintro e wo ⟨L, BB, hBB, rfl, hbo, hi⟩)
          | (go_at_call 65; refine (machine_q hi.out.1 hi.out.2 _ true HV.out).mono ?_; rintro e w' ⟨rfl, rfl⟩)
          | (go_at_call 66; refine (within_r _ _ _ true HC.out _).mono ?_; rintro e w' ⟨rfl, rfl⟩)
          | (go_at_call 67; refine (longest_q hi.out.1 hi.out.2 _ _ n HN.out).mono ?_; rintro e w' ⟨rfl, hbl⟩))
        go_ret2
        exact ⟨rfl, ((((Below.refl _ _).alloc (Nat.le_refl _) _)).trans (hbo.mono (by simp))).trans (hbl.mono (by have := hbo.size; simp at this; omega))⟩
end Go.Proofs.YtchnhjffpldpiaaDoor
