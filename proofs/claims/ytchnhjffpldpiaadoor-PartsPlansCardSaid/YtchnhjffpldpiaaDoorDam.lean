/- The damage of a series, as plain functions. No program. -/
import Derived.Test.YtchnhjffpldpiaaDoorMB
namespace Go.Proofs.YtchnhjffpldpiaaDoor

def badStep (steps : List (Int × Int)) (i : Nat) : Bool :=
  !inB (steps[i]!).1 0 1000000 || !inB (steps[i]!).2 0 1000000 || (decide (0 < i) && decide ((steps[i]!).1 ≤ (steps[i - 1]!).1))
def stepsE (steps : List (Int × Int)) : Int := if 8 < steps.length then 1 else if (List.range steps.length).any (badStep steps) then 1 else 0
def dmgUp (steps : List (Int × Int)) (size : Int) : Nat → Int
  | 0 => 0
  | k + 1 => if (steps[k]!).1 ≤ size then (steps[k]!).2 else dmgUp steps size k
theorem dmgUp_zero (steps : List (Int × Int)) (size : Int) : dmgUp steps size 0 = 0 := rfl
theorem dmgUp_succ (steps : List (Int × Int)) (size : Int) (k : Nat) : dmgUp steps size (k + 1) = if (steps[k]!).1 ≤ size then (steps[k]!).2 else dmgUp steps size k := rfl
def dsumUp (steps cs : List (Int × Int)) : Nat → Int
  | 0 => 0
  | k + 1 => dsumUp steps cs k + (cs[k]!).2 * dmgUp steps (cs[k]!).1 steps.length
theorem dsumUp_zero (steps cs : List (Int × Int)) : dsumUp steps cs 0 = 0 := rfl
theorem dsumUp_succ (steps cs : List (Int × Int)) (k : Nat) : dsumUp steps cs (k + 1) = dsumUp steps cs k + (cs[k]!).2 * dmgUp steps (cs[k]!).1 steps.length := rfl
/-- Each step is one. -/
def Steps (steps : List (Int × Int)) : Prop := ∀ i, i < steps.length → 0 ≤ (steps[i]!).1 ∧ (steps[i]!).1 ≤ 1000000 ∧ 0 ≤ (steps[i]!).2 ∧ (steps[i]!).2 ≤ 1000000
theorem any_range {n : Nat} {f : Nat → Bool} : (List.range n).any f = true ↔ ∃ i, i < n ∧ f i = true := by
  rw [List.any_eq_true]
  constructor
  · rintro ⟨i, h, e⟩; exact ⟨i, List.mem_range.1 h, e⟩
  · rintro ⟨i, h, e⟩; exact ⟨i, List.mem_range.2 h, e⟩
theorem any_range_no {n : Nat} {f : Nat → Bool} (h : ∀ i, i < n → f i = false) : (List.range n).any f = false := by
  rw [Bool.eq_false_iff]
  intro e
  obtain ⟨i, hi, e⟩ := any_range.1 e
  rw [h i hi] at e
  cases e
theorem steps_of {steps : List (Int × Int)} (h : stepsE steps = 0) : steps.length ≤ 8 ∧ Steps steps := by
  unfold stepsE at h
  split at h
  · omega
  · split at h
    · omega
    · rename_i h1 h2
      refine ⟨by omega, fun i hi => ?_⟩
      have hb : badStep steps i = false := by
        cases e : badStep steps i with
        | false => rfl
        | true => exact absurd (any_range.2 ⟨i, hi, e⟩) h2
      unfold badStep at hb
      rw [Bool.or_eq_false_iff, Bool.or_eq_false_iff, Bool.not_eq_false', Bool.not_eq_false', inB_iff, inB_iff] at hb
      obtain ⟨⟨a, b⟩, _⟩ := hb
      exact ⟨a.1, a.2, b.1, b.2⟩
theorem dmg_bd {steps : List (Int × Int)} (h : Steps steps) (size : Int) : ∀ k, k ≤ steps.length → 0 ≤ dmgUp steps size k ∧ dmgUp steps size k ≤ 1000000 := by
  intro k
  induction k with
  | zero => intro _; rw [dmgUp_zero]; omega
  | succ k ih =>
    intro hk
    rw [dmgUp_succ]
    have := h k (by omega)
    split
    · omega
    · exact ih (by omega)
theorem mul_bd {a b : Int} (ha : a = 1 ∨ a = 2) (h0 : 0 ≤ b) (h1 : b ≤ 1000000) : 0 ≤ a * b ∧ a * b ≤ 2000000 := by
  rcases ha with rfl | rfl <;> omega
theorem dsum_bd {steps cs : List (Int × Int)} (h : Steps steps) (hc : Halves cs) : ∀ k, k ≤ cs.length → 0 ≤ dsumUp steps cs k ∧ dsumUp steps cs k ≤ 2000000 * (k : Int) := by
  intro k
  induction k with
  | zero => intro _; rw [dsumUp_zero]; omega
  | succ k ih =>
    intro hk
    rw [dsumUp_succ]
    have h1 := dmg_bd h (cs[k]!).1 steps.length (Nat.le_refl _)
    have h2 := mul_bd (hc _ (get_mem2 cs k (by omega))) h1.1 h1.2
    have := ih (by omega)
    omega
end Go.Proofs.YtchnhjffpldpiaaDoor
