/- parts.Damage: where it refuses. -/
import Derived.Test.YtchnhjffpldpiaaDoorBack
import Derived.Test.YtchnhjffpldpiaaDoorMF
namespace Go.Proofs.YtchnhjffpldpiaaDoor
open Go Go.RowKit

/-! plain -/
theorem dmg_skip (steps : List (Int × Int)) (sz : Int) (n : Nat) : ∀ k, k ≤ n → (∀ j, j < k → sz < (steps[n - 1 - j]!).1) → dmgUp steps sz n = dmgUp steps sz (n - k) := by
  intro k
  induction k with
  | zero => intro _ _; rfl
  | succ k ih =>
    intro hk h
    rw [ih (by omega) (fun j hj => h j (by omega))]
    obtain ⟨m, hm⟩ : ∃ m, n - k = m + 1 := ⟨n - k - 1, by omega⟩
    have h1 := h k (by omega)
    rw [show n - 1 - k = m by omega] at h1
    rw [hm, dmgUp_succ, if_neg (by omega), show n - (k + 1) = m by omega]
theorem dmg_none (steps : List (Int × Int)) (sz : Int) (n : Nat) (h : ∀ j, j < n → sz < (steps[n - 1 - j]!).1) : dmgUp steps sz n = 0 := by
  rw [dmg_skip steps sz n n (Nat.le_refl _) h, Nat.sub_self, dmgUp_zero]
theorem dmg_first (steps : List (Int × Int)) (sz : Int) (n k : Nat) (hk : k < n) (h : ∀ j, j < k → sz < (steps[n - 1 - j]!).1) (h1 : (steps[n - 1 - k]!).1 ≤ sz) : dmgUp steps sz n = (steps[n - 1 - k]!).2 := by
  rw [dmg_skip steps sz n k (by omega) h]
  obtain ⟨m, hm⟩ : ∃ m, n - k = m + 1 := ⟨n - k - 1, by omega⟩
  rw [show n - 1 - k = m by omega] at h1 ⊢
  rw [hm, dmgUp_succ, if_pos h1]
theorem dsumUp_app (steps cs : List (Int × Int)) (x : Int × Int) : ∀ k, k ≤ cs.length → dsumUp steps (cs ++ [x]) k = dsumUp steps cs k := by
  intro k
  induction k with
  | zero => intro _; rfl
  | succ k ih =>
    intro hk
    rw [dsumUp_succ, dsumUp_succ, ih (by omega), get_app_lt cs x k (by omega)]
def dsumL (steps cs : List (Int × Int)) : Int := dsumUp steps cs cs.length
theorem dsumL_nil (steps : List (Int × Int)) : dsumL steps [] = 0 := rfl
theorem dsumL_snoc (steps cs : List (Int × Int)) (x : Int × Int) : dsumL steps (cs ++ [x]) = dsumL steps cs + x.2 * dmgUp steps x.1 steps.length := by
  unfold dsumL
  rw [List.length_append, List.length_singleton, dsumUp_succ, dsumUp_app steps cs x _ (Nat.le_refl _), get_app_end]
theorem dsumL_bd {steps cs : List (Int × Int)} (h : Steps steps) (hc : Halves cs) : 0 ≤ dsumL steps cs ∧ dsumL steps cs ≤ 2000000 * (cs.length : Int) := dsum_bd h hc _ (Nat.le_refl _)
theorem first_bad {n : Nat} {f : Nat → Bool} (h : (List.range n).any f = true) : ∃ i, i < n ∧ f i = true ∧ ∀ j, j < i → f j = false := by
  obtain ⟨i, hi, e⟩ := any_range.1 h
  induction i using Nat.strongRecOn with
  | ind i ih =>
    by_cases hx : ∃ j, j < i ∧ f j = true
    · obtain ⟨j, hj, e2⟩ := hx
      exact ih j hj (by omega) e2
    · refine ⟨i, hi, e, fun j hj => ?_⟩
      cases e2 : f j with
      | false => rfl
      | true => exact absurd ⟨j, hj, e2⟩ hx

/-! the walk -/
variable {zs : List Int} {steps : List (Int × Int)} {a a2 : Option Addr} {n c n2 c2 : Nat} {w : World} {B : Nat}

/-- The two boxes at the head of the call. -/
theorem dam_boxes {w w1 : World} {v : Value} (hb : Below ((w.alloc (.cells #[v] 26)).alloc (.cells #[.int .i64 0] 3)).heap.size ((w.alloc (.cells #[v] 26)).alloc (.cells #[.int .i64 0] 3)) w1) :
    Boxed w1 w.heap.size 26 v ∧ Boxed w1 (w.heap.size + 1) 3 (.int .i64 0) ∧ Below w.heap.size w w1 ∧ w.heap.size + 1 < w1.heap.size := by
  have b1 := (Boxed.new w 26 v).alloc (.cells #[.int .i64 0] 3)
  have b2 := Boxed.new (w.alloc (.cells #[v] 26)) 3 (.int .i64 0)
  simp only [World.size_alloc] at b2
  have hz := hb.size
  simp only [World.size_alloc] at hz
  exact ⟨(hb.block _ b1.lt).trans b1, (hb.block _ b2.lt).trans b2, (((Below.refl _ w).alloc (Nat.le_refl _) _).alloc (by simp) _).trans (hb.mono (by simp; omega)), by omega⟩

theorem dam_series (hB : B ≤ w.heap.size) (hR : Rd encInt 1 w B a n zs) (er : Int) (he : seriesE zs = er) (v : Value) :
    Hid (∀ W, W = (w.alloc (.cells #[v] 26)).alloc (.cells #[.int .i64 0] 3) → Calls Tryd.prog 62 #[.slice a n c] W fun e w' => e = .returned (.int .i64 er) ∧ Boxed w' w.heap.size 26 v ∧ Boxed w' (w.heap.size + 1) 3 (.int .i64 0) ∧ Below w.heap.size w w' ∧ w.heap.size + 1 < w'.heap.size) := by
  intro W hW
  subst hW
  refine (series_any zs a n c _ B (by simp; omega) (hR.below ((((Below.refl _ w).alloc (Nat.le_refl _) _).alloc (by simp) _).mono hB))).mono ?_
  rintro e w' ⟨h1, h2⟩
  exact ⟨by rw [h1, he], dam_boxes h2⟩

set_option maxRecDepth 100000 in
set_option maxHeartbeats 1000000 in
theorem dam_err (hB : B ≤ w.heap.size) (hR : Rd encInt 1 w B a n zs) (er : Int) (he : seriesE zs = er) (h0 : er ≠ 0) :
    Calls Tryd.prog 43 #[.slice a n c, .slice a2 n2 c2] w fun e w' => e = .returned (.tuple #[.int .i64 0, .int .i64 er]) ∧ Below w.heap.size w w' := by
  have SE := dam_series (c := c) hB hR er he (.slice a2 n2 c2)
  have hf : (er == 0) = false := by simpa using h0
  have hf2 : (er != 0) = true := by simpa using h0
  clear hR hB he h0
  go_enter Tryd.func43, Tryd.ntmps43
  go_wp2_with (go_at_call 62; refine (SE.out _ rfl).mono ?_; rintro e w1 ⟨rfl, b1, b2, hb, hz⟩; have hc1 := b2.cell; have hf1 := b2.frozen; clear b1 b2 SE)
  exact bodyPost_ret (v := .tuple #[.int .i64 0, .int .i64 er]) (by simp [results, Tryd.results43, go_sem, hc1]) rfl ⟨rfl, hb.setCell (p := ⟨w.heap.size + 1, 0, none⟩) (Nat.le_succ _) _⟩

set_option maxRecDepth 100000 in
set_option maxHeartbeats 1000000 in
theorem dam_long (hB : B ≤ w.heap.size) (hR : Rd encInt 1 w B a n zs) (he : seriesE zs = 0) (h8 : 8 < n2) :
    Calls Tryd.prog 43 #[.slice a n c, .slice a2 n2 c2] w fun e w' => e = .returned (.tuple #[.int .i64 0, .int .i64 1]) ∧ Below w.heap.size w w' := by
  have SE := dam_series (c := c) hB hR 0 he (.slice a2 n2 c2)
  have h8z : (8 : Int) < (n2 : Int) := by omega
  clear hR hB he h8
  go_enter Tryd.func43, Tryd.ntmps43
  go_wp2_with (go_at_call 62; refine (SE.out _ rfl).mono ?_; rintro e w1 ⟨rfl, b1, b2, hb, hz⟩; have hc0 := b1.cell; have hc1 := b2.cell; have hf1 := b2.frozen; clear b1 b2 SE)
  exact bodyPost_ret (v := .tuple #[.int .i64 0, .int .i64 1]) (by simp [results, Tryd.results43, go_sem, hc1]) rfl ⟨rfl, hb.setCell (p := ⟨w.heap.size + 1, 0, none⟩) (Nat.le_succ _) _⟩
end Go.Proofs.YtchnhjffpldpiaaDoor
