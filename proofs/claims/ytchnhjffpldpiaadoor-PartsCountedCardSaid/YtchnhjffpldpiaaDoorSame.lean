/- swashplatelaw09.samePairs, and where Cycles refuses. -/
import Derived.Test.YtchnhjffpldpiaaDoorCyc
import Derived.Test.YtchnhjffpldpiaaDoorA1
namespace Go.Proofs.YtchnhjffpldpiaaDoor
open Go.RowKit
attribute [local go_sem] eqi_spot eqi_pair gd_spot gd_pair

theorem ret_false : Ending.returned (.bool false) = .returned (.bool false) := rfl

theorem rd_pair {w : World} {B : Nat} {a : Option Addr} {n : Nat} {xs : List (Int × Int)} (h : Rd encPair 2 w B a n xs) (j : Nat) (hj : j < n) : ∃ b off, a = some ⟨b, off, none⟩ ∧ b < B ∧
    w.cell? ⟨b, off + j * 2, none⟩ = some (.int .i64 (xs[j]!).1) ∧ w.cell? ⟨b, off + j * 2 + 1, none⟩ = some (.int .i64 (xs[j]!).2) := by
  obtain ⟨b, off, h1, h2⟩ := h.ex
  obtain ⟨ha, hb⟩ := h1 (by omega)
  exact ⟨b, off, ha, hb, h2 j hj 0 _ rfl, h2 j hj 1 _ rfl⟩

theorem take_ext {α : Type} [Inhabited α] {xs ys : List α} (hl : xs.length = ys.length) (h : ∀ j, j < xs.length → xs[j]! = ys[j]!) : xs = ys := by
  apply List.ext_getElem hl
  intro i h1 h2
  have := h i h1
  rwa [getElem!_pos xs i h1, getElem!_pos ys i h2] at this

set_option maxRecDepth 100000 in
set_option maxHeartbeats 1000000 in
theorem samePairs_any (xs ys : List (Int × Int)) (a a2 : Option Addr) (n c n2 c2 : Nat) (w : World) (B : Nat) (hB : B ≤ w.heap.size) (h1 : Rd encPair 2 w B a n xs) (h2 : Rd encPair 2 w B a2 n2 ys) :
    Calls Tryd.prog 21 #[.slice a n c, .slice a2 n2 c2] w fun e w' => e = .returned (.bool (decide (xs = ys))) ∧ Below w.heap.size w w' := by
  have e1 := h1.len
  have e2 := h2.len
  have m1 := h1.big
  have m2 := h2.big
  by_cases hl : n = n2
  · subst hl
    have HE := Lib.hid (And.intro e1 e2)
    have R1 := Lib.hid h1
    have R2 := Lib.hid h2
    have HB := Lib.hid hB
    clear h1 h2 e1 e2 hB m2
    go_enter Tryd.func21, Tryd.ntmps21
    go_wp2
    go_loopg [5] n (fun gg s5 wr => ∃ k : Nat, k ≤ n ∧ n - k ≤ gg ∧ s5 = .int .i64 k ∧ Aside (Below w.heap.size w wr) ∧ Aside (∀ j, j < k → xs[j]! = ys[j]!))
    case atStart => exact ⟨0, Nat.zero_le _, by omega, rfl, Below.refl _ _, fun j hj => by omega⟩
    case round =>
      obtain ⟨k, hk, hg, rfl, BW, EQ⟩ := hrel
      by_cases hlt : k < n
      · have hltz : (k : Int) < (n : Int) := by omega
        have hk0 : (0 : Int) ≤ (k : Int) := by omega
        obtain ⟨b, off, rfl, hb, x1, x2⟩ := rd_pair R1.out k hlt
        obtain ⟨b', off', rfl, hb', y1, y2⟩ := rd_pair R2.out k hlt
        replace x1 := ((BW.out.mono HB.out).cell (p := ⟨b, off + k * 2, none⟩) hb).trans x1
        replace x2 := ((BW.out.mono HB.out).cell (p := ⟨b, off + k * 2 + 1, none⟩) hb).trans x2
        replace y1 := ((BW.out.mono HB.out).cell (p := ⟨b', off' + k * 2, none⟩) hb').trans y1
        replace y2 := ((BW.out.mono HB.out).cell (p := ⟨b', off' + k * 2 + 1, none⟩) hb').trans y2
        obtain ⟨x, hx⟩ : ∃ x, xs[k]! = x := ⟨_, rfl⟩
        obtain ⟨y, hy⟩ : ∃ y, ys[k]! = y := ⟨_, rfl⟩
        rw [hx] at x1 x2
        rw [hy] at y1 y2
        have HXY := Lib.hid (And.intro hx hy)
        obtain ⟨xa, xb⟩ := x
        obtain ⟨ya, yb⟩ := y
        simp only at x1 x2 y1 y2
        clear hx hy
        by_cases he : xa = ya ∧ xb = yb
        · obtain ⟨rfl, rfl⟩ := he
          go_wp2
          go_quiet (fail)
          refine world_gen (w := wr) (Q := fun W => Exit.then _ _ _ _ W) (fun W bW => ?_) _
          have BW2 := Lib.hid bW
          clear bW x1 x2 y1 y2
          go_wp2
          go_roundg (n - (k + 1))
          case measure => omega
          case rel => exact ⟨k + 1, by omega, by omega, by go_num, BW.out.trans (BW2.out.mono BW.out.size), fun j hj => by
            by_cases e : j = k
            · subst e; exact HXY.out.1.trans HXY.out.2.symm
            · exact EQ.out j (by omega)⟩
        · have hf : (xa == ya && xb == yb) = false := by
            rw [Bool.and_eq_false_iff]
            simp only [beq_eq_false_iff_ne]
            by_cases e : xa = ya
            · exact .inr fun e2 => he ⟨e, e2⟩
            · exact .inl e
          have HN := Lib.hid he
          clear he
          go_wp2
          go_quiet (fail)
          refine world_gen (w := wr) (Q := fun W => Exit.then _ _ _ _ W) (fun W bW => ?_) _
          have BW2 := Lib.hid bW
          clear bW x1 x2 y1 y2
          go_wp2
          go_ret
          refine ⟨ret_bool ?_, BW.out.trans (BW2.out.mono BW.out.size)⟩
          refine (decide_eq_false ?_).symm
          intro e
          rw [e] at HXY
          have := HXY.out.1.symm.trans HXY.out.2
          injection this with h1 h2
          exact HN.out ⟨h1, h2⟩
      · have hltz : ¬ (k : Int) < (n : Int) := by omega
        have : k = n := by omega
        subst this
        go_wp2
        go_ret
        refine ⟨ret_bool ?_, BW.out⟩
        refine (decide_eq_true ?_).symm
        exact take_ext (by rw [← HE.out.1, ← HE.out.2]) (fun j hj => EQ.out j (by rw [HE.out.1]; exact hj))
  · have hne : ((n : Int) == (n2 : Int)) = false := by simp; omega
    have hd : decide (xs = ys) = false := decide_eq_false (fun e => hl (by rw [e1, e2, e]))
    rw [hd]
    clear h1 h2 e1 e2 hd
    go_enter Tryd.func21, Tryd.ntmps21
    go_wp2
    go_ret
    exact ⟨rfl, Below.refl _ _⟩

set_option maxHeartbeats 1000000 in
theorem cycles_err (zs : List Int) (a : Option Addr) (n c : Nat) (w : World) (B : Nat) (hB : B ≤ w.heap.size) (hR : Rd encInt 1 w B a n zs) (er : Int) (he : seriesE zs = er) (h0 : er ≠ 0) :
    Calls Tryd.prog 19 #[.slice a n c] w fun e w' => e = .returned (.tuple #[.slice none 0 0, .int .i64 er]) ∧ Below w.heap.size w w' := by
  have SE := Lib.hid (fun (W : World) (hW : Below w.heap.size w W) => by
    have := series_any zs a n c W B (Nat.le_trans hB hW.size) (hR.below (hW.mono hB))
    rw [he] at this
    exact this)
  have hz : er = 1 ∨ er = 2 := by
    unfold seriesE at he
    split at he
    · omega
    · split at he <;> omega
  clear hR hB he h0
  rcases hz with rfl | rfl
  all_goals
    go_enter Tryd.func19, Tryd.ntmps19
    go_wp2_with (first
      | (go_at_call 62; refine (SE.out _ ((Below.refl _ _).alloc (Nat.le_refl _) _)).mono ?_; rintro e w1 ⟨rfl, hb1⟩; have hbx : Boxed w1 w.heap.size 26 (.slice none 0 0) := (hb1.block _ (by rw [World.size_alloc]; omega)).trans (Boxed.new w 26 (.slice none 0 0)); have hc1 := hbx.cell; have hf1 := hbx.frozen; clear hbx))
    have hbw : Below w.heap.size w (w1.setCell ⟨w.heap.size, 0, none⟩ (.slice none 0 0)) := (((Below.refl _ _).alloc (Nat.le_refl _) _).trans (hb1.mono (by rw [World.size_alloc]; omega))).setCell (p := ⟨w.heap.size, 0, none⟩) (Nat.le_refl _) _
    first
      | exact bodyPost_ret (v := .tuple #[.slice none 0 0, .int .i64 1]) (by simp [results, Tryd.results19, go_sem, hc1]) rfl ⟨rfl, hbw⟩
      | exact bodyPost_ret (v := .tuple #[.slice none 0 0, .int .i64 2]) (by simp [results, Tryd.results19, go_sem, hc1]) rfl ⟨rfl, hbw⟩
end Go.Proofs.YtchnhjffpldpiaaDoor
