/- The reference's Gaps and Doubles; sameSpans; PartsPages. -/
import Derived.Test.YtchnhjffpldpiaaDoorLPag
namespace Go.Proofs.YtchnhjffpldpiaaDoor
open Go Go.RowKit

theorem gd_span : (Tryd.prog).eqGuardType (Tryd.prog).depth 91 = false := by kernel_rfl
theorem sh_span : (Tryd.prog).stoodInHeld 91 = false := by kernel_rfl
theorem fo_span : ((Tryd.prog).fieldsOf 91).toList = [{ name := "Low", type := 3, offset := 0, embedded := false, tag := "", pkgPath := "", byteOffset := 0 }, { name := "High", type := 3, offset := 1, embedded := false, tag := "", pkgPath := "", byteOffset := 8 }] := by kernel_rfl
theorem un_span : (Tryd.prog).underlying 91 = some (.struct ((Tryd.prog).fieldsOf 91)) := by kernel_rfl
set_option maxRecDepth 100000 in
theorem eqi_span (a b c d : Int) (w : World) : (Op.equalIn 10000 91 (.agg #[.int .i64 a, .int .i64 b]) (.agg #[.int .i64 c, .int .i64 d])).run Tryd.prog w = .ok (a == c && b == d) w := by
  rw [run_equalIn_struct (P := Tryd.prog) w 9999 _ _ _ un_span sh_span, fo_span]
  simp only [Op.eqFields]
  simp [Sem.run_bind, part, Result.andThen_ok, run_equalIn_int _ _ _ _ _ _ _ Tryd.underlying3]
  by_cases h : a = c
  · subst h
    by_cases h' : b = d
    · subst h'; simp
    · simp [h']
  · simp [h]
section
attribute [local go_sem ↓] eqi_span
attribute [local go_sem] gd_span
set_option maxRecDepth 100000 in
set_option maxHeartbeats 1000000 in
theorem sameSpans_any (xs ys : List (Int × Int)) (a a2 : Option Addr) (n c n2 c2 : Nat) (w : World) (B : Nat) (hB : B ≤ w.heap.size) (h1 : Rd encPair 2 w B a n xs) (h2 : Rd encPair 2 w B a2 n2 ys) :
    Calls Tryd.prog 53 #[.slice a n c, .slice a2 n2 c2] w fun e w' => e = .returned (.bool (decide (xs = ys))) ∧ Below w.heap.size w w' := by
  have e1 := h1.len
  have e2 := h2.len
  have m1 := h1.big
  have m2 := h2.big
  by_cases hl : n = n2
  · subst hl
    have HE := Lib.hid (And.intro e1 e2)
    have R1 := Lib.hid h1
    have R2 := Lib.hid h2
    have HB := Lib.hid hB
    clear h1 h2 e1 e2 hB m2
    go_enter Tryd.func53, Tryd.ntmps53
    go_wp2
    go_loopg [5] n (fun gg s5 wr => ∃ k : Nat, k ≤ n ∧ n - k ≤ gg ∧ s5 = .int .i64 k ∧ Aside (Below w.heap.size w wr) ∧ Aside (∀ j, j < k → xs[j]! = ys[j]!))
    case atStart => exact ⟨0, Nat.zero_le _, by omega, rfl, Below.refl _ _, fun j hj => by omega⟩
    case round =>
      obtain ⟨k, hk, hg, rfl, BW, EQ⟩ := hrel
      by_cases hlt : k < n
      · have hltz : (k : Int) < (n : Int) := by omega
        have hk0 : (0 : Int) ≤ (k : Int) := by omega
        obtain ⟨b, off, rfl, hb, x1, x2⟩ := rd_pair R1.out k hlt
        obtain ⟨b', off', rfl, hb', y1, y2⟩ := rd_pair R2.out k hlt
        replace x1 := ((BW.out.mono HB.out).cell (p := ⟨b, off + k * 2, none⟩) hb).trans x1
        replace x2 := ((BW.out.mono HB.out).cell (p := ⟨b, off + k * 2 + 1, none⟩) hb).trans x2
        replace y1 := ((BW.out.mono HB.out).cell (p := ⟨b', off' + k * 2, none⟩) hb').trans y1
        replace y2 := ((BW.out.mono HB.out).cell (p := ⟨b', off' + k * 2 + 1, none⟩) hb').trans y2
        obtain ⟨x, hx⟩ : ∃ x, xs[k]! = x := ⟨_, rfl⟩
        obtain ⟨y, hy⟩ : ∃ y, ys[k]! = y := ⟨_, rfl⟩
        rw [hx] at x1 x2
        rw [hy] at y1 y2
        have HXY := Lib.hid (And.intro hx hy)
        obtain ⟨xa, xb⟩ := x
        obtain ⟨ya, yb⟩ := y
        simp only at x1 x2 y1 y2
        clear hx hy
        by_cases he : xa = ya ∧ xb = yb
        · obtain ⟨rfl, rfl⟩ := he
          go_wp2
          go_quiet (fail)
          refine world_gen (w := wr) (Q := fun W => Exit.then _ _ _ _ W) (fun W bW => ?_) _
          have BW2 := Lib.hid bW
          clear bW x1 x2 y1 y2
          go_wp2
          go_roundg (n - (k + 1))
          case measure => omega
          case rel => exact ⟨k + 1, by omega, by omega, by go_num, BW.out.trans (BW2.out.mono BW.out.size), fun j hj => by
            by_cases e : j = k
            · subst e; exact HXY.out.1.trans HXY.out.2.symm
            · exact EQ.out j (by omega)⟩
        · have hf : (xa == ya && xb == yb) = false := by
            rw [Bool.and_eq_false_iff]
            simp only [beq_eq_false_iff_ne]
            by_cases e : xa = ya
            · exact .inr fun e2 => he ⟨e, e2⟩
            · exact .inl e
          have HN := Lib.hid he
          clear he
          go_wp2
          go_quiet (fail)
          refine world_gen (w := wr) (Q := fun W => Exit.then _ _ _ _ W) (fun W bW => ?_) _
          have BW2 := Lib.hid bW
          clear bW x1 x2 y1 y2
          go_wp2
          go_ret
          refine ⟨ret_bool ?_, BW.out.trans (BW2.out.mono BW.out.size)⟩
          refine (decide_eq_false ?_).symm
          intro e
          rw [e] at HXY
          have := HXY.out.1.symm.trans HXY.out.2
          injection this with h1 h2
          exact HN.out ⟨h1, h2⟩
      · have hltz : ¬ (k : Int) < (n : Int) := by omega
        have : k = n := by omega
        subst this
        go_wp2
        go_ret
        refine ⟨ret_bool ?_, BW.out⟩
        refine (decide_eq_true ?_).symm
        exact take_ext (by rw [← HE.out.1, ← HE.out.2]) (fun j hj => EQ.out j (by rw [HE.out.1]; exact hj))
  · have hne : ((n : Int) == (n2 : Int)) = false := by simp; omega
    have hd : decide (xs = ys) = false := decide_eq_false (fun e => hl (by rw [e1, e2, e]))
    rw [hd]
    clear h1 h2 e1 e2 hd
    go_enter Tryd.func53, Tryd.ntmps53
    go_wp2
    go_ret
    exact ⟨rfl, Below.refl _ _⟩

end

theorem sameSpans_q (xs ys : List (Int × Int)) (a a2 : Option Addr) (n c n2 c2 : Nat) (w : World) (B : Nat) (hB : B ≤ w.heap.size) (h1 : Rd encPair 2 w B a n xs) (h2 : Rd encPair 2 w B a2 n2 ys) (b : Bool) (hb : decide (xs = ys) = b) :
    Calls Tryd.prog 53 #[.slice a n c, .slice a2 n2 c2] w fun e w' => e = .returned (.bool b) ∧ Below w.heap.size w w' := by
  subst hb; exact sameSpans_any xs ys a a2 n c n2 c2 w B hB h1 h2

variable {pages : List (Int × Int)} {a a2 : Option Addr} {n c n2 c2 : Nat} {w : World} {B : Nat}

theorem many_le (pages : List (Int × Int)) (h : Int) (hn : pages.length ≤ 20) : 0 ≤ many pages h ∧ many pages h ≤ 20 := by
  have := manyUp_bd pages h pages.length
  unfold many
  omega
theorem gap_in {m : Int} : inB m 0 0 = isGap m := by
  rw [Bool.eq_iff_iff, inB_iff]; unfold isGap; simp; omega
theorem double_in {m : Int} (h : m ≤ 20) : inB m 2 20 = isDouble m := by
  rw [Bool.eq_iff_iff, inB_iff]; unfold isDouble; simp; omega

set_option maxHeartbeats 400000 in
theorem rgaps_any (hB : B ≤ w.heap.size) (hS : Rd encPair 2 w B a n pages) (hours er : Int) (he : pagesE hours pages = er) (out : List (Int × Int)) (ho : covR isGap hours pages = out) :
    Calls Tryd.prog 52 #[.int .i64 hours, .slice a n c] w fun e w' => ∃ v, e = .returned (.tuple #[v, .int .i64 er]) ∧ StrM w w' v out := by
  have C := Lib.hid (rchk_any (c := c) hB hS hours er he)
  by_cases h0 : er = 0
  · subst h0
    unfold covR at ho
    rw [if_pos he] at ho
    obtain ⟨h1, h2, _⟩ := pages_of he
    obtain ⟨H, rfl⟩ := Int.eq_ofNat_of_zero_le h1.1
    have S := Lib.hid (fun (W : World) (hW : Below w.heap.size w W) => stretches_any (c := c) (Nat.le_trans hB hW.size) (hS.below (hW.mono hB)) (by rw [hS.len]; omega) H (by omega) 0 0 (fun h => isGap (many pages h)) (fun h _ => gap_in))
    rw [show (H : Int).toNat = H from rfl] at ho
    rw [ho] at S
    clear hB hS he ho h1 h2
    go_enter Tryd.func52, Tryd.ntmps52
    go_wp2_with (first
      | (go_at_call 56; refine C.out.mono ?_; rintro e w1 ⟨rfl, hb⟩; have HB1 := Lib.hid hb; clear hb)
      | (go_at_call 96; refine (S.out _ HB1.out).mono ?_; rintro e w2 ⟨v, rfl, hs⟩; have HS := Lib.hid hs; clear hs))
    go_ret2
    exact ⟨_, rfl, HS.out.up HB1.out⟩
  · have hf : (er == 0) = false := by simpa using h0
    have hf2 : (er != 0) = true := by simpa using h0
    have e2 : out = [] := by rw [← ho]; unfold covR; rw [if_neg (by rw [he]; exact h0)]
    subst e2
    clear hB hS he ho h0
    go_enter Tryd.func52, Tryd.ntmps52
    go_wp2_with (go_at_call 56; refine C.out.mono ?_; rintro e w1 ⟨rfl, hb⟩; have HB1 := Lib.hid hb; clear hb)
    go_ret2
    exact ⟨_, rfl, StrM.nil HB1.out⟩
set_option maxHeartbeats 400000 in
theorem rdoubles_any (hB : B ≤ w.heap.size) (hS : Rd encPair 2 w B a n pages) (hours er : Int) (he : pagesE hours pages = er) (out : List (Int × Int)) (ho : covR isDouble hours pages = out) :
    Calls Tryd.prog 55 #[.int .i64 hours, .slice a n c] w fun e w' => ∃ v, e = .returned (.tuple #[v, .int .i64 er]) ∧ StrM w w' v out := by
  have C := Lib.hid (rchk_any (c := c) hB hS hours er he)
  by_cases h0 : er = 0
  · subst h0
    unfold covR at ho
    rw [if_pos he] at ho
    obtain ⟨h1, h2, _⟩ := pages_of he
    obtain ⟨H, rfl⟩ := Int.eq_ofNat_of_zero_le h1.1
    have S := Lib.hid (fun (W : World) (hW : Below w.heap.size w W) => stretches_any (c := c) (Nat.le_trans hB hW.size) (hS.below (hW.mono hB)) (by rw [hS.len]; omega) H (by omega) 2 20 (fun h => isDouble (many pages h)) (fun h _ => double_in (many_le pages h h2).2))
    rw [show (H : Int).toNat = H from rfl] at ho
    rw [ho] at S
    clear hB hS he ho h1 h2
    go_enter Tryd.func55, Tryd.ntmps55
    go_wp2_with (first
      | (go_at_call 56; refine C.out.mono ?_; rintro e w1 ⟨rfl, hb⟩; have HB1 := Lib.hid hb; clear hb)
      | (go_at_call 96; refine (S.out _ HB1.out).mono ?_; rintro e w2 ⟨v, rfl, hs⟩; have HS := Lib.hid hs; clear hs))
    go_ret2
    exact ⟨_, rfl, HS.out.up HB1.out⟩
  · have hf : (er == 0) = false := by simpa using h0
    have hf2 : (er != 0) = true := by simpa using h0
    have e2 : out = [] := by rw [← ho]; unfold covR; rw [if_neg (by rw [he]; exact h0)]
    subst e2
    clear hB hS he ho h0
    go_enter Tryd.func55, Tryd.ntmps55
    go_wp2_with (go_at_call 56; refine C.out.mono ?_; rintro e w1 ⟨rfl, hb⟩; have HB1 := Lib.hid hb; clear hb)
    go_ret2
    exact ⟨_, rfl, StrM.nil HB1.out⟩

/-- What stretches show a reader. -/
theorem StrM.rd {w wr : World} {v : Value} {out : List (Int × Int)} (h : StrM w wr v out) (hl : out.length ≤ 1000000) : ∃ ao cap, v = .slice ao out.length cap ∧ Rd encPair 2 wr wr.heap.size ao out.length out ∧ Below w.heap.size w wr := by
  obtain ⟨a, c, e, hr⟩ := rd_row h.1 hl
  exact ⟨a, c, e, hr, h.2⟩
theorem covR_len (p : Int → Bool) (hours : Int) (pages : List (Int × Int)) : (covR p hours pages).length ≤ 1000000 := by
  unfold covR
  split
  · rename_i h
    have h1 := (pages_of h).1
    have h2 := strUp_len (fun h => p (many pages h)) hours.toNat
    omega
  · simp
set_option maxHeartbeats 400000 in
theorem far_any (hours : Int) (w : World) : Calls Tryd.prog 50 #[.int .i64 hours] w fun e w' => e = .returned (.bool (decide (300 < hours) && decide (hours ≤ 100000))) ∧ w = w' := by
  by_cases h : 300 < hours
  all_goals
    go_enter Tryd.func50, Tryd.ntmps50
    go_wp2
    go_ret
    exact ⟨ret_bool (by simp [h]; try omega), rfl⟩

set_option maxRecDepth 100000 in
set_option maxHeartbeats 1000000 in
theorem pages_law (hS : Rd encPair 2 w w.heap.size a n pages) (hG : Glb w w.heap.size) (hours : Int) :
    Calls Tryd.prog 15 #[.int .i64 hours, .slice a n c] w fun e w' => e = .returned (.bool true) ∧ Below w.heap.size w w' := by
  have WK := Lib.hid (works_in hG)
  obtain ⟨f, hf⟩ : ∃ f, (decide (300 < hours) && decide (hours ≤ 100000)) = f := ⟨_, rfl⟩
  have FA := Lib.hid (fun W => far_any hours W)
  rw [hf] at FA
  obtain ⟨er, he⟩ : ∃ er, pagesE hours pages = er := ⟨_, rfl⟩
  obtain ⟨g, hg⟩ : ∃ g, covR isGap hours pages = g := ⟨_, rfl⟩
  obtain ⟨d, hd⟩ : ∃ d, covR isDouble hours pages = d := ⟨_, rfl⟩
  have hgl := covR_len isGap hours pages
  have hdl := covR_len isDouble hours pages
  rw [hg] at hgl
  rw [hd] at hdl
  have PG : Hid (∀ W, Below w.heap.size w W → Calls Tryd.prog 51 #[.int .i64 hours, .slice a n c] W fun e w' => ∃ ao cap, e = .returned (.tuple #[.slice ao g.length cap, .int .i64 er]) ∧ Rd encPair 2 w' w'.heap.size ao g.length g ∧ Below W.heap.size W w' ∧ Below w.heap.size w w') := fun W hW =>
    (gaps_any (Nat.le_refl _) ((hS.below hW).up hW.size) hours er he g hg).mono fun e w' ⟨v, h1, h2⟩ => by
      obtain ⟨ao, cap, rfl, hr, hb⟩ := h2.rd hgl
      exact ⟨ao, cap, h1, hr, hb, hW.trans (hb.mono hW.size)⟩
  have RG : Hid (∀ W, Below w.heap.size w W → Calls Tryd.prog 52 #[.int .i64 hours, .slice a n c] W fun e w' => ∃ ao cap, e = .returned (.tuple #[.slice ao g.length cap, .int .i64 er]) ∧ Rd encPair 2 w' w'.heap.size ao g.length g ∧ Below W.heap.size W w' ∧ Below w.heap.size w w') := fun W hW =>
    (rgaps_any (Nat.le_refl _) ((hS.below hW).up hW.size) hours er he g hg).mono fun e w' ⟨v, h1, h2⟩ => by
      obtain ⟨ao, cap, rfl, hr, hb⟩ := h2.rd hgl
      exact ⟨ao, cap, h1, hr, hb, hW.trans (hb.mono hW.size)⟩
  have PD : Hid (∀ W, Below w.heap.size w W → Calls Tryd.prog 54 #[.int .i64 hours, .slice a n c] W fun e w' => ∃ ao cap, e = .returned (.tuple #[.slice ao d.length cap, .int .i64 er]) ∧ Rd encPair 2 w' w'.heap.size ao d.length d ∧ Below W.heap.size W w' ∧ Below w.heap.size w w') := fun W hW =>
    (doubles_any (Nat.le_refl _) ((hS.below hW).up hW.size) hours er he d hd).mono fun e w' ⟨v, h1, h2⟩ => by
      obtain ⟨ao, cap, rfl, hr, hb⟩ := h2.rd hdl
      exact ⟨ao, cap, h1, hr, hb, hW.trans (hb.mono hW.size)⟩
  have RD : Hid (∀ W, Below w.heap.size w W → Calls Tryd.prog 55 #[.int .i64 hours, .slice a n c] W fun e w' => ∃ ao cap, e = .returned (.tuple #[.slice ao d.length cap, .int .i64 er]) ∧ Rd encPair 2 w' w'.heap.size ao d.length d ∧ Below W.heap.size W w' ∧ Below w.heap.size w w') := fun W hW =>
    (rdoubles_any (Nat.le_refl _) ((hS.below hW).up hW.size) hours er he d hd).mono fun e w' ⟨v, h1, h2⟩ => by
      obtain ⟨ao, cap, rfl, hr, hb⟩ := h2.rd hdl
      exact ⟨ao, cap, h1, hr, hb, hW.trans (hb.mono hW.size)⟩
  have B0 := Lib.hid (Below.refl w.heap.size w)
  clear hS hG he hg hd hf hgl hdl
  cases f with
  | true =>
    go_enter Tryd.func15, Tryd.ntmps15
    go_wp2_with (first
      | (go_at_call 50; refine (FA.out _).mono ?_; rintro e w1 ⟨rfl, rfl⟩)
      | (go_at_call 18; refine (WK.out _ B0.out).mono ?_; rintro e w6 ⟨rfl, hb6⟩))
    go_ret
    exact ⟨rfl, hb6⟩
  | false =>
    generalize g.length = ng at PG RG
    generalize d.length = nd at PD RD
    go_enter Tryd.func15, Tryd.ntmps15
    have tok : True := trivial
    go_wp2_with (first
      | (go_at_call 50; refine (FA.out _).mono ?_; rintro e w1 ⟨rfl, rfl⟩)
      | (go_at_call 51; refine (PG.out _ B0.out).mono ?_; rintro e w1 ⟨xa, xc, rfl, hr, hb1, hb2⟩; have X1 := Lib.hid hr; have B1 := Lib.hid hb2; clear hr hb1 hb2)
      | (go_at_call 52; refine (RG.out _ B1.out).mono ?_; rintro e w2 ⟨ya, yc, rfl, hr, hb1, hb2⟩; have Y2 := Lib.hid hr; have X2 := Lib.hid ((X1.out.below hb1).up hb1.size); have B2 := Lib.hid hb2; clear hr hb1 hb2)
      | (go_at_call 53; have q := tok; refine (sameSpans_q g g _ _ _ _ _ _ _ _ (Nat.le_refl _) X2.out Y2.out true (by simp)).mono ?_; rintro e w3 ⟨rfl, hb1⟩; have B3 := Lib.hid (B2.out.trans (hb1.mono B2.out.size)); clear hb1 q tok)
      | (go_at_call 54; refine (PD.out _ B3.out).mono ?_; rintro e w4 ⟨xa4, xc4, rfl, hr, hb1, hb2⟩; have X4 := Lib.hid hr; have B4 := Lib.hid hb2; clear hr hb1 hb2)
      | (go_at_call 55; refine (RD.out _ B4.out).mono ?_; rintro e w5 ⟨ya5, yc5, rfl, hr, hb1, hb2⟩; have Y5 := Lib.hid hr; have X5 := Lib.hid ((X4.out.below hb1).up hb1.size); have B5 := Lib.hid hb2; clear hr hb1 hb2)
      | (go_at_call 53; refine (sameSpans_q d d _ _ _ _ _ _ _ _ (Nat.le_refl _) X5.out Y5.out true (by simp)).mono ?_; rintro e w6 ⟨rfl, hb1⟩; have B6 := Lib.hid (B5.out.trans (hb1.mono B5.out.size)); clear hb1)
      | (go_at_call 18; refine (WK.out _ B6.out).mono ?_; rintro e w7 ⟨rfl, hb7⟩))
    go_ret
    exact ⟨rfl, hb7⟩
end Go.Proofs.YtchnhjffpldpiaaDoor
