/- The reference's pages: CheckPages, Many, stretches, Gaps, Doubles; and sameSpans. -/
import Derived.Test.YtchnhjffpldpiaaDoorMF
import Derived.Test.YtchnhjffpldpiaaDoorRefC1
import Derived.Test.YtchnhjffpldpiaaDoorPag
namespace Go.Proofs.YtchnhjffpldpiaaDoor
open Go Go.RowKit

theorem refWithin_s (n lo hi : Int) (r : Bool) (h : inB n lo hi = r) (w : World) :
    Calls Tryd.prog 77 #[.int .i64 n, .int .i64 lo, .int .i64 hi] w fun e w' => e = .returned (.bool r) ∧ w' = w :=
  (refWithin_q n lo hi r h w).mono fun _ _ hh => ⟨hh.1, hh.2.symm⟩

/-! ## plain -/
theorem strStep_nil (h : Int) : strStep [] h = [(h, h)] := rfl
theorem strStep_same (A : List (Int × Int)) (l u h : Int) (e : u = h - 1) : strStep (A ++ [(l, u)]) h = A ++ [(l, h)] := by
  unfold strStep
  have hl : (A ++ [(l, u)]).length = A.length + 1 := by simp
  have hg : (A ++ [(l, u)])[A.length]! = (l, u) := by
    rw [getElem!_pos _ A.length (by simp)]; simp
  rw [hl, Nat.add_sub_cancel, hg, if_pos ⟨by omega, e⟩, List.set_append_right _ _ (Nat.le_refl _), Nat.sub_self]
  rfl
theorem strStep_more (A : List (Int × Int)) (l u h : Int) (e : ¬ u = h - 1) : strStep (A ++ [(l, u)]) h = A ++ [(l, u)] ++ [(h, h)] := by
  unfold strStep
  have hl : (A ++ [(l, u)]).length = A.length + 1 := by simp
  have hg : (A ++ [(l, u)])[A.length]! = (l, u) := by
    rw [getElem!_pos _ A.length (by simp)]; simp
  rw [hl, Nat.add_sub_cancel, hg, if_neg (fun x => e x.2)]
theorem list_end (l : List (Int × Int)) : l = [] ∨ ∃ A x y, l = A ++ [(x, y)] := by
  rcases List.eq_nil_or_concat l with h | ⟨A, p, h⟩
  · exact .inl h
  · exact .inr ⟨A, p.1, p.2, by simpa using h⟩
theorem flat_len2 : ∀ A : List (Int × Int), (A.flatMap encPair).length = A.length * 2 := by
  intro A
  induction A with
  | nil => rfl
  | cons a A ih => rw [List.flatMap_cons, List.length_append, ih]; simp [encPair]; omega
/-- What a growing list of pairs shows of its last one. -/
theorem own_last {w : World} {B E : Nat} {v : Value} {A : List (Int × Int)} {l u : Int} (h : w.ownsRow B E 2 v (A ++ [(l, u)]).length ((A ++ [(l, u)]).flatMap encPair)) :
    ∃ g cap, v = .slice (some ⟨g, 0, none⟩) (A.length + 1) cap ∧ B ≤ g ∧ g < w.heap.size ∧ w.cell? ⟨g, A.length * 2 + 1, none⟩ = some (.int .i64 u) ∧ w.frozen? ⟨g, A.length * 2 + 1, none⟩ = false ∧
      ∀ x : Int, (w.setCell ⟨g, A.length * 2 + 1, none⟩ (.int .i64 x)).ownsRow B E 2 (.slice (some ⟨g, 0, none⟩) (A.length + 1) cap) (A ++ [(l, x)]).length ((A ++ [(l, x)]).flatMap encPair) := by
  have hl : (A ++ [(l, u)]).length = A.length + 1 := by simp
  have hf : (A.flatMap encPair).length = A.length * 2 := flat_len2 A
  have hx : ∀ x : Int, (A ++ [(l, x)]).flatMap encPair = A.flatMap encPair ++ [.int .i64 l, .int .i64 x] := fun x => by simp [encPair]
  rw [hl] at h
  obtain ⟨g, cap, rfl⟩ := ownsRow_succ h
  have hlt := h.lt g rfl
  refine ⟨g, cap, rfl, hlt.1, hlt.2, ?_, ?_, fun x => ?_⟩
  · have := h.cells rfl (A.length * 2 + 1) (.int .i64 u) (by rw [hx, List.getElem?_append_right (by omega), hf]; simp)
    rwa [Addr.add_lit, Nat.zero_add] at this
  · rcases h.2 with ⟨h1, _⟩ | ⟨g', cap', cur, h1, _, h3, _⟩
    · cases h1
    · cases h1; simp [World.frozen?, h3]
  · have := (h.stored (A.length * 2 + 1) (.int .i64 x)).1
    rw [show (A ++ [(l, x)]).length = A.length + 1 by simp, hx x]
    rw [hx u] at this
    rw [List.set_append_right _ _ (by omega), hf] at this
    simpa using this

variable {pages : List (Int × Int)} {a : Option Addr} {n c : Nat} {w : World} {B : Nat}

set_option maxRecDepth 100000 in
set_option maxHeartbeats 1000000 in
theorem many_any (hB : B ≤ w.heap.size) (hS : Rd encPair 2 w B a n pages) (hn : n ≤ 1000000) (h m : Int) (hm : many pages h = m) :
    Calls Tryd.prog 57 #[.slice a n c, .int .i64 h] w fun e w' => e = .returned (.int .i64 m) ∧ Below w.heap.size w w' := by
  have ST : Hid (∀ W, Below w.heap.size w W → Rd encPair 2 W B a n pages) := fun W hW => hS.below (hW.mono hB)
  have HM := Lib.hid hm
  have HN := Lib.hid hS.len
  clear hS hB hm
  go_enter Tryd.func57, Tryd.ntmps57
  go_wp2
  go_loopg [5, 6] n (fun gg s5 s6 wr => ∃ k : Nat, k ≤ n ∧ n - k ≤ gg ∧ s5 = .int .i64 (manyUp pages h k) ∧ s6 = .int .i64 k ∧ Aside (Below w.heap.size w wr))
  case atStart => exact ⟨0, Nat.zero_le _, by omega, rfl, rfl, Below.refl _ _⟩
  case round =>
    obtain ⟨k, hk, hg, rfl, rfl, BW⟩ := hrel
    by_cases hlt : k < n
    · have hltz : (k : Int) < (n : Int) := by omega
      have hk0 : (0 : Int) ≤ (k : Int) := by omega
      obtain ⟨b, off, rfl, hb, x1, x2⟩ := rd_pair (ST.out _ BW.out) k hlt
      have MS := Lib.hid (manyUp_succ pages h k)
      obtain ⟨m0, m1⟩ := manyUp_bd pages h k
      generalize manyUp pages h k = M at MS m0 m1 ⊢
      obtain ⟨s, hs⟩ : ∃ s, pages[k]! = s := ⟨_, rfl⟩
      rw [hs] at x1 x2 MS
      obtain ⟨sa, sb⟩ := s
      simp only at x1 x2
      clear hs
      obtain ⟨r, hr⟩ : ∃ r, inB h sa sb = r := ⟨_, rfl⟩
      have W1 := Lib.hid (refWithin_s h sa sb r hr)
      have HR := Lib.hid hr
      clear hr
      go_wp2
      go_quiet ((go_at_call 77; exact Calls.quiet_of_same (W1.out _)))
      refine world_gen (w := wr) (Q := fun W => Exit.then _ _ _ _ W) (fun W bW => ?_) _
      have HF := Lib.hid (BW.out.trans (bW.mono BW.out.size))
      clear bW x1 x2
      cases r
      all_goals
        go_wp2
        go_roundg (n - (k + 1))
        case measure => omega
        case rel => exact ⟨k + 1, by omega, by omega, by rw [MS.out]; simp [HR.out], by go_num, HF.out⟩
    · have hltz : ¬ (k : Int) < (n : Int) := by omega
      obtain rfl : n = k := by omega
      have e : manyUp pages h n = m := by rw [HN.out]; exact HM.out
      rw [e]
      go_wp2
      go_ret
      exact ⟨rfl, BW.out⟩
end Go.Proofs.YtchnhjffpldpiaaDoor
