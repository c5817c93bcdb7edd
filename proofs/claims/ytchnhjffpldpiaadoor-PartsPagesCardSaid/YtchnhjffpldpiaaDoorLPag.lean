/- Gaps and Doubles on both sides; sameSpans; swashplatelaw09.PartsPages answers true. -/
import Derived.Test.YtchnhjffpldpiaaDoorPPag2
import Derived.Test.YtchnhjffpldpiaaDoorPC
namespace Go.Proofs.YtchnhjffpldpiaaDoor
open Go Go.RowKit

variable {pages : List (Int × Int)} {a a2 : Option Addr} {n c n2 c2 : Nat} {w : World} {B : Nat}

theorem cov_any (hB : B ≤ w.heap.size) (hS : Rd encPair 2 w B a n pages) (hours : Int) (gf : Nat) (eg : ∀ args w, (callFunc gf args).run Tryd.prog w = .ok (.enter gf args) w) (p : Int → Bool)
    (hp : ∀ x W, Calls Tryd.prog gf #[.int .i64 x] W fun e w' => e = .returned (.bool (p x)) ∧ W = w') (er : Int) (he : pagesE hours pages = er) (out : List (Int × Int)) (ho : covR p hours pages = out) :
    Calls Tryd.prog 94 #[.int .i64 hours, .slice a n c, .func (.func gf) #[] #[]] w fun e w' => ∃ v, e = .returned (.tuple #[v, .int .i64 er]) ∧ StrM w w' v out := by
  cases hi : inB hours 0 100000 with
  | false =>
    have e1 : pagesE hours pages = 1 := by unfold pagesE; rw [if_pos (by rw [hi]; rfl)]
    have e2 : covR p hours pages = [] := by unfold covR; rw [e1]; rfl
    rw [← he, ← ho, e1, e2]
    exact (cov_arg hours hi _).mono fun e w' h => ⟨_, h.1, StrM.nil h.2⟩
  | true =>
    by_cases hn : 20 < n
    · have e1 : pagesE hours pages = 2 := by unfold pagesE; rw [if_neg (by rw [hi]; decide), if_pos (by rw [← hS.len]; exact hn)]
      have e2 : covR p hours pages = [] := by unfold covR; rw [e1]; rfl
      rw [← he, ← ho, e1, e2]
      exact (cov_many hours hi hn _).mono fun e w' h => ⟨_, h.1, StrM.nil h.2⟩
    · rw [inB_iff] at hi
      obtain ⟨H, rfl⟩ := Int.eq_ofNat_of_zero_le hi.1
      exact cov_go hB hS H (by omega) (by omega) gf eg p hp er he out ho

def isGap (x : Int) : Bool := x == 0
def isDouble (x : Int) : Bool := decide (1 < x)
set_option maxHeartbeats 400000 in
theorem gap1_any (x : Int) (w : World) : Calls Tryd.prog 95 #[.int .i64 x] w fun e w' => e = .returned (.bool (isGap x)) ∧ w = w' := by
  unfold isGap
  go_enter Tryd.func95, Tryd.ntmps95
  go_wp2
  go_ret
  exact ⟨rfl, rfl⟩
set_option maxHeartbeats 400000 in
theorem double1_any (x : Int) (w : World) : Calls Tryd.prog 97 #[.int .i64 x] w fun e w' => e = .returned (.bool (isDouble x)) ∧ w = w' := by
  unfold isDouble
  go_enter Tryd.func97, Tryd.ntmps97
  go_wp2
  go_ret
  exact ⟨rfl, rfl⟩
set_option maxHeartbeats 400000 in
theorem gaps_any (hB : B ≤ w.heap.size) (hS : Rd encPair 2 w B a n pages) (hours er : Int) (he : pagesE hours pages = er) (out : List (Int × Int)) (ho : covR isGap hours pages = out) :
    Calls Tryd.prog 51 #[.int .i64 hours, .slice a n c] w fun e w' => ∃ v, e = .returned (.tuple #[v, .int .i64 er]) ∧ StrM w w' v out := by
  have C := Lib.hid (cov_any (c := c) hB hS hours 95 (enters_of (P := Tryd.prog) Tryd.func95 (by kernel_rfl) rfl) isGap gap1_any er he out ho)
  clear hB hS he ho
  go_enter Tryd.func51, Tryd.ntmps51
  go_wp2_with (go_at_call 94; refine C.out.mono ?_; rintro e w' ⟨v, rfl, hs⟩; have HS := Lib.hid hs; clear hs)
  go_ret2
  exact ⟨_, rfl, HS.out⟩
set_option maxHeartbeats 400000 in
theorem doubles_any (hB : B ≤ w.heap.size) (hS : Rd encPair 2 w B a n pages) (hours er : Int) (he : pagesE hours pages = er) (out : List (Int × Int)) (ho : covR isDouble hours pages = out) :
    Calls Tryd.prog 54 #[.int .i64 hours, .slice a n c] w fun e w' => ∃ v, e = .returned (.tuple #[v, .int .i64 er]) ∧ StrM w w' v out := by
  have C := Lib.hid (cov_any (c := c) hB hS hours 97 (enters_of (P := Tryd.prog) Tryd.func97 (by kernel_rfl) rfl) isDouble double1_any er he out ho)
  clear hB hS he ho
  go_enter Tryd.func54, Tryd.ntmps54
  go_wp2_with (go_at_call 94; refine C.out.mono ?_; rintro e w' ⟨v, rfl, hs⟩; have HS := Lib.hid hs; clear hs)
  go_ret2
  exact ⟨_, rfl, HS.out⟩

/-! ## the reference -/
set_option maxRecDepth 100000 in
set_option maxHeartbeats 1000000 in
theorem rchk_arg (hours : Int) (h : inB hours 0 100000 = false) :
    Calls Tryd.prog 56 #[.int .i64 hours, .slice a n c] w fun e w' => e = .returned (.int .i64 1) ∧ Below w.heap.size w w' := by
  have W1 := Lib.hid (refWithin_q hours 0 100000 false h)
  clear h
  go_enter Tryd.func56, Tryd.ntmps56
  go_wp2_with (go_at_call 77; refine (W1.out _).mono ?_; rintro e w' ⟨rfl, rfl⟩)
  go_ret
  exact ⟨rfl, Below.refl _ _⟩
set_option maxRecDepth 100000 in
set_option maxHeartbeats 1000000 in
theorem rchk_many (hours : Int) (h : inB hours 0 100000 = true) (hn : 20 < n) :
    Calls Tryd.prog 56 #[.int .i64 hours, .slice a n c] w fun e w' => e = .returned (.int .i64 2) ∧ Below w.heap.size w w' := by
  have W1 := Lib.hid (refWithin_q hours 0 100000 true h)
  have hnz : (20 : Int) < (n : Int) := by omega
  clear h hn
  go_enter Tryd.func56, Tryd.ntmps56
  go_wp2_with (go_at_call 77; refine (W1.out _).mono ?_; rintro e w' ⟨rfl, rfl⟩)
  go_ret
  exact ⟨rfl, Below.refl _ _⟩
set_option maxRecDepth 100000 in
set_option maxHeartbeats 1000000 in
theorem rchk_go (hB : B ≤ w.heap.size) (hS : Rd encPair 2 w B a n pages) (hours : Int) (h : inB hours 0 100000 = true) (hn : n ≤ 20) (er : Int) (he : pagesE hours pages = er) :
    Calls Tryd.prog 56 #[.int .i64 hours, .slice a n c] w fun e w' => e = .returned (.int .i64 er) ∧ Below w.heap.size w w' := by
  have W0 := Lib.hid (refWithin_q hours 0 100000 true h)
  have hl := hS.len
  have E10 : Hid (∀ k, k < n → badPage hours pages[k]! = true → er = 10) := fun k hk hb => by
    rw [← he]
    unfold pagesE
    rw [if_neg (by rw [h]; decide), if_neg (by omega), if_pos]
    exact List.any_eq_true.2 ⟨pages[k]!, by rw [getElem!_pos pages k (by omega)]; exact List.getElem_mem _, hb⟩
  have E0 : Hid ((∀ k, k < n → badPage hours pages[k]! = false) → er = 0) := fun hg => by
    rw [← he]
    unfold pagesE
    rw [if_neg (by rw [h]; decide), if_neg (by omega), if_neg]
    intro hx
    obtain ⟨x, hx, hb⟩ := List.any_eq_true.1 hx
    obtain ⟨k, hk, rfl⟩ := List.getElem_of_mem hx
    have := hg k (by omega)
    rw [getElem!_pos pages k hk, hb] at this
    cases this
  have ST : Hid (∀ W, Below w.heap.size w W → Rd encPair 2 W B a n pages) := fun W hW => hS.below (hW.mono hB)
  rw [inB_iff] at h
  obtain ⟨h0, h1⟩ := h
  have hnz : ¬ (20 : Int) < (n : Int) := by omega
  clear hS hB he hl
  go_enter Tryd.func56, Tryd.ntmps56
  go_wp2_with (go_at_call 77; refine (W0.out _).mono ?_; rintro e w' ⟨rfl, rfl⟩)
  go_loopg [5] n (fun gg s5 wr => ∃ k : Nat, k ≤ n ∧ n - k ≤ gg ∧ s5 = .int .i64 k ∧ Aside (Below w.heap.size w wr) ∧ Aside (∀ j, j < k → badPage hours pages[j]! = false))
  case atStart => exact ⟨0, Nat.zero_le _, by omega, rfl, Below.refl _ _, fun j hj => by omega⟩
  case round =>
    obtain ⟨k, hk, hg, rfl, BW, GD⟩ := hrel
    by_cases hlt : k < n
    · have hltz : (k : Int) < (n : Int) := by omega
      have hk0 : (0 : Int) ≤ (k : Int) := by omega
      obtain ⟨b, off, rfl, hb, x1, x2⟩ := rd_pair (ST.out _ BW.out) k hlt
      have E1 := Lib.hid (E10.out k hlt)
      have BP : Hid (badPage hours pages[k]! = !(inB (pages[k]!).1 0 (hours - 1) && inB (pages[k]!).2 (pages[k]!).1 (hours - 1))) := rfl
      have GD2 : Hid (badPage hours pages[k]! = false → ∀ j, j < k + 1 → badPage hours pages[j]! = false) := fun hh j hj => by
        by_cases e : j = k
        · rw [e]; exact hh
        · exact GD.out j (by omega)
      obtain ⟨s, hs⟩ : ∃ s, pages[k]! = s := ⟨_, rfl⟩
      rw [hs] at x1 x2 E1 BP GD2
      obtain ⟨l, h⟩ := s
      simp only at x1 x2
      clear hs
      cases hr1 : inB l 0 (hours - 1) with
      | false =>
        have W1 := Lib.hid (refWithin_s l 0 (hours - 1) false hr1)
        have he := E1.out (by rw [BP.out]; simp only [hr1]; rfl)
        subst he
        clear hr1 BP E1 GD2
        go_wp2
        go_quiet ((go_at_call 77; exact Calls.quiet_of_same (W1.out _)))
        refine world_gen (w := wr) (Q := fun W => Exit.then _ _ _ _ W) (fun W bW => ?_) _
        have HF := Lib.hid (BW.out.trans (bW.mono BW.out.size))
        clear bW x1 x2
        go_wp2
        go_ret
        exact ⟨rfl, HF.out⟩
      | true =>
        have W1 := Lib.hid (refWithin_s l 0 (hours - 1) true hr1)
        cases hr2 : inB h l (hours - 1) with
        | false =>
          have W2 := Lib.hid (refWithin_s h l (hours - 1) false hr2)
          have he := E1.out (by rw [BP.out]; simp only [hr1, hr2]; rfl)
          subst he
          clear hr1 hr2 BP E1 GD2
          go_wp2
          go_quiet ((go_at_call 77; (first | (with_reducible exact Calls.quiet_of_same (W1.out _)) | (with_reducible exact Calls.quiet_of_same (W2.out _)))))
          refine world_gen (w := wr) (Q := fun W => Exit.then _ _ _ _ W) (fun W bW => ?_) _
          have HF := Lib.hid (BW.out.trans (bW.mono BW.out.size))
          clear bW x1 x2
          go_wp2
          go_ret
          exact ⟨rfl, HF.out⟩
        | true =>
          have W2 := Lib.hid (refWithin_s h l (hours - 1) true hr2)
          have HG := Lib.hid (GD2.out (by rw [BP.out]; simp only [hr1, hr2]; rfl))
          clear hr1 hr2 BP E1 GD2
          go_wp2
          go_quiet ((go_at_call 77; (first | (with_reducible exact Calls.quiet_of_same (W1.out _)) | (with_reducible exact Calls.quiet_of_same (W2.out _)))))
          refine world_gen (w := wr) (Q := fun W => Exit.then _ _ _ _ W) (fun W bW => ?_) _
          have HF := Lib.hid (BW.out.trans (bW.mono BW.out.size))
          clear bW x1 x2
          go_wp2
          go_roundg (n - (k + 1))
          case measure => omega
          case rel => exact ⟨k + 1, by omega, by omega, by go_num, HF.out, HG.out⟩
    · have hltz : ¬ (k : Int) < (n : Int) := by omega
      obtain rfl : n = k := by omega
      have he := E0.out GD.out
      subst he
      go_wp2
      go_ret
      exact ⟨rfl, BW.out⟩
theorem rchk_any (hB : B ≤ w.heap.size) (hS : Rd encPair 2 w B a n pages) (hours er : Int) (he : pagesE hours pages = er) :
    Calls Tryd.prog 56 #[.int .i64 hours, .slice a n c] w fun e w' => e = .returned (.int .i64 er) ∧ Below w.heap.size w w' := by
  cases hi : inB hours 0 100000 with
  | false =>
    rw [← he, show pagesE hours pages = 1 by unfold pagesE; rw [if_pos (by rw [hi]; rfl)]]
    exact rchk_arg hours hi
  | true =>
    by_cases hn : 20 < n
    · rw [← he, show pagesE hours pages = 2 by unfold pagesE; rw [if_neg (by rw [hi]; decide), if_pos (by rw [← hS.len]; exact hn)]]
      exact rchk_many hours hi hn
    · exact rchk_go hB hS hours hi (by omega) er he
end Go.Proofs.YtchnhjffpldpiaaDoor
