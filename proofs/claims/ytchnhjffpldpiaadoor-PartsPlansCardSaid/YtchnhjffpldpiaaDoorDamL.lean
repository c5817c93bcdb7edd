/- The plain law of PartsDamage. No program. -/
import Derived.Test.YtchnhjffpldpiaaDoorDam
namespace Go.Proofs.YtchnhjffpldpiaaDoor

theorem get_app_lt {α : Type} [Inhabited α] (l : List α) (x : α) (i : Nat) (h : i < l.length) : (l ++ [x])[i]! = l[i]! := by
  rw [getElem!_pos (l ++ [x]) i (by rw [List.length_append, List.length_singleton]; omega), getElem!_pos l i h, List.getElem_append_left h]
theorem get_app_end {α : Type} [Inhabited α] (l : List α) (x : α) : (l ++ [x])[l.length]! = x := by
  rw [getElem!_pos (l ++ [x]) l.length (by rw [List.length_append, List.length_singleton]; omega)]
  simp

theorem dmgUp_app (steps : List (Int × Int)) (m : Int × Int) (size : Int) : ∀ k, k ≤ steps.length → dmgUp (steps ++ [m]) size k = dmgUp steps size k := by
  intro k
  induction k with
  | zero => intro _; rfl
  | succ k ih =>
    intro hk
    rw [dmgUp_succ, dmgUp_succ, get_app_lt steps m k (by omega), ih (by omega)]
theorem dmgUp_le {steps : List (Int × Int)} {m : Int} (h0 : 0 ≤ m) (h : ∀ i, i < steps.length → (steps[i]!).2 ≤ m) (size : Int) : ∀ k, k ≤ steps.length → dmgUp steps size k ≤ m := by
  intro k
  induction k with
  | zero => intro _; exact h0
  | succ k ih =>
    intro hk
    rw [dmgUp_succ]
    split
    · exact h k (by omega)
    · exact ih (by omega)
theorem dmg_more {steps : List (Int × Int)} {m : Int × Int} (h0 : 0 ≤ m.2) (h : ∀ i, i < steps.length → (steps[i]!).2 ≤ m.2) (size : Int) : dmgUp steps size steps.length ≤ dmgUp (steps ++ [m]) size (steps ++ [m]).length := by
  rw [List.length_append, List.length_singleton, dmgUp_succ, get_app_end, dmgUp_app steps m size _ (Nat.le_refl _)]
  split
  · exact dmgUp_le h0 h size _ (Nat.le_refl _)
  · exact Int.le_refl _
theorem dsum_more {steps cs : List (Int × Int)} {m : Int × Int} (h0 : 0 ≤ m.2) (h : ∀ i, i < steps.length → (steps[i]!).2 ≤ m.2) (hc : Halves cs) : ∀ k, k ≤ cs.length → dsumUp steps cs k ≤ dsumUp (steps ++ [m]) cs k := by
  intro k
  induction k with
  | zero => intro _; exact Int.le_refl _
  | succ k ih =>
    intro hk
    rw [dsumUp_succ, dsumUp_succ]
    have h1 := ih (by omega)
    have h2 := dmg_more h0 h (cs[k]!).1
    have h3 : (cs[k]!).2 * dmgUp steps (cs[k]!).1 steps.length ≤ (cs[k]!).2 * dmgUp (steps ++ [m]) (cs[k]!).1 (steps ++ [m]).length := by
      rcases hc _ (get_mem2 cs k (by omega)) with e | e <;> rw [e] <;> omega
    omega
theorem cyc_pos (zs : List Int) : ∀ x ∈ cycP zs, 0 ≤ x.1 := by
  intro x hx
  obtain ⟨a, _, b, _, e⟩ := cyc_ranges zs x hx
  rw [e]; unfold dist; omega
theorem dsum_seven {cs : List (Int × Int)} (h : ∀ x ∈ cs, 0 ≤ x.1) : ∀ k, k ≤ cs.length → dsumUp [(0, 7)] cs k = 7 * hsum (cs.take k) := by
  intro k
  induction k with
  | zero => intro _; rw [List.take_zero]; rfl
  | succ k ih =>
    intro hk
    have h1 := h _ (get_mem2 cs k (by omega))
    have e : dmgUp [(0, 7)] (cs[k]!).1 [((0 : Int), (7 : Int))].length = 7 := by
      show (if (0 : Int) ≤ (cs[k]!).1 then (7 : Int) else 0) = 7
      rw [if_pos h1]
    rw [dsumUp_succ, ih (by omega), e, hsum_take cs k (by omega)]
    omega
/-- What Damage answers where the series is one. -/
def damR (steps cs : List (Int × Int)) : Int × Int := if stepsE steps = 0 then (dsumUp steps cs cs.length, 0) else (0, 1)
/-- What Damage answers. -/
def damF (zs : List Int) (steps : List (Int × Int)) : Int × Int := if seriesE zs = 0 then damR steps (cycP zs) else (0, seriesE zs)
theorem damR_bad {steps cs : List (Int × Int)} {i : Nat} (hi : i < steps.length) (h : badStep steps i = true) : damR steps cs = (0, 1) := by
  unfold damR
  rw [if_neg]
  unfold stepsE
  split
  · omega
  · rw [if_pos (any_range.2 ⟨i, hi, h⟩)]; omega
theorem damR_long {steps cs : List (Int × Int)} (h : 8 < steps.length) : damR steps cs = (0, 1) := by
  unfold damR
  rw [if_neg]
  unfold stepsE
  rw [if_pos h]
  omega
theorem stepsE_ok {steps : List (Int × Int)} (h8 : steps.length ≤ 8) (h : ∀ j, j < steps.length → badStep steps j = false) : stepsE steps = 0 := by
  unfold stepsE
  rw [if_neg (by omega), any_range_no h]
  rfl
theorem damR_ok {steps cs : List (Int × Int)} (h : stepsE steps = 0) : damR steps cs = (dsumUp steps cs cs.length, 0) := if_pos h
theorem damF_ok {zs : List Int} {steps : List (Int × Int)} (h : seriesE zs = 0) : damF zs steps = damR steps (cycP zs) := if_pos h
theorem damF_err {zs : List Int} {steps : List (Int × Int)} (h : ¬ seriesE zs = 0) : damF zs steps = (0, seriesE zs) := if_neg h
theorem damF_zero {zs : List Int} {steps : List (Int × Int)} {d : Int} (h : damF zs steps = (d, 0)) : seriesE zs = 0 ∧ stepsE steps = 0 ∧ d = dsumUp steps (cycP zs) (cycP zs).length := by
  by_cases h1 : seriesE zs = 0
  · rw [damF_ok h1] at h
    unfold damR at h
    split at h
    · rename_i h2
      rw [Prod.mk.injEq] at h
      exact ⟨h1, h2, h.1.symm⟩
    · rw [Prod.mk.injEq] at h; omega
  · rw [damF_err h1, Prod.mk.injEq] at h
    exact absurd h.2 h1
/-- One more step, of a damage that is not less: not less damage. -/
theorem damF_more {zs : List Int} {steps : List (Int × Int)} {m : Int × Int} {a b : Int} (h1 : damF zs steps = (a, 0)) (h2 : damF zs (steps ++ [m]) = (b, 0)) (h : ∀ i, i < steps.length → (steps[i]!).2 ≤ m.2) : a ≤ b := by
  obtain ⟨_, _, rfl⟩ := damF_zero h1
  obtain ⟨_, e, rfl⟩ := damF_zero h2
  have hs := (steps_of e).2 steps.length (by rw [List.length_append, List.length_singleton]; omega)
  rw [get_app_end] at hs
  exact dsum_more hs.2.2.1 h (cyc_halves zs).2 _ (Nat.le_refl _)
theorem damF_seven {zs : List Int} (h : seriesE zs = 0) : damF zs [(0, 7)] = (7 * max 0 (((turnP zs).length : Int) - 1), 0) := by
  rw [damF_ok h, damR_ok (by decide), dsum_seven (cyc_pos zs) _ (Nat.le_refl _), List.take_length, (cyc_halves zs).1]
  congr 1
  omega
theorem damF_bd {zs : List Int} {steps : List (Int × Int)} {d e : Int} (h : damF zs steps = (d, e)) : 0 ≤ d ∧ d ≤ 600000000 ∧ 0 ≤ e ∧ e ≤ 2 := by
  by_cases h1 : seriesE zs = 0
  · rw [damF_ok h1] at h
    unfold damR at h
    split at h
    · rename_i h2
      rw [Prod.mk.injEq] at h
      have h3 := dsum_bd (steps_of h2).2 (cyc_halves zs).2 _ (Nat.le_refl _)
      have h4 := cycP_len zs
      have h5 := (loads_of h1).1
      omega
    · rw [Prod.mk.injEq] at h; omega
  · rw [damF_err h1, Prod.mk.injEq] at h
    unfold seriesE at h h1
    split at h
    · omega
    · split at h <;> omega
end Go.Proofs.YtchnhjffpldpiaaDoor
