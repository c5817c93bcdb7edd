/- Pages of a history: on how many an hour is, and the stretches. Plain. -/
import Derived.Test.YtchnhjffpldpiaaDoorMA
namespace Go.Proofs.YtchnhjffpldpiaaDoor

def badPage (hours : Int) (p : Int × Int) : Bool := !(inB p.1 0 (hours - 1) && inB p.2 p.1 (hours - 1))
/-- The error of hours and pages. -/
def pagesE (hours : Int) (pages : List (Int × Int)) : Int := if !inB hours 0 100000 then 1 else if 20 < pages.length then 2 else if pages.any (badPage hours) then 10 else 0
def manyUp (pages : List (Int × Int)) (h : Int) : Nat → Int
  | 0 => 0
  | k + 1 => manyUp pages h k + if inB h (pages[k]!).1 (pages[k]!).2 then 1 else 0
def many (pages : List (Int × Int)) (h : Int) : Int := manyUp pages h pages.length
theorem manyUp_zero (pages : List (Int × Int)) (h : Int) : manyUp pages h 0 = 0 := rfl
theorem manyUp_succ (pages : List (Int × Int)) (h : Int) (k : Nat) : manyUp pages h (k + 1) = manyUp pages h k + if inB h (pages[k]!).1 (pages[k]!).2 then 1 else 0 := rfl
theorem manyUp_bd (pages : List (Int × Int)) (h : Int) : ∀ k, 0 ≤ manyUp pages h k ∧ manyUp pages h k ≤ (k : Int) := by
  intro k
  induction k with
  | zero => rw [manyUp_zero]; omega
  | succ k ih => rw [manyUp_succ]; split <;> omega
/-- By how much the number of pages changes at an hour, by the first k pages. -/
def chgUp (pages : List (Int × Int)) (i : Int) : Nat → Int
  | 0 => 0
  | k + 1 => chgUp pages i k + (if (pages[k]!).1 = i then 1 else 0) - (if (pages[k]!).2 + 1 = i then 1 else 0)
theorem chgUp_zero (pages : List (Int × Int)) (i : Int) : chgUp pages i 0 = 0 := rfl
theorem chgUp_succ (pages : List (Int × Int)) (i : Int) (k : Nat) : chgUp pages i (k + 1) = chgUp pages i k + (if (pages[k]!).1 = i then 1 else 0) - (if (pages[k]!).2 + 1 = i then 1 else 0) := rfl
theorem chgUp_bd (pages : List (Int × Int)) (i : Int) : ∀ k : Nat, -(k : Int) ≤ chgUp pages i k ∧ chgUp pages i k ≤ (k : Int) := by
  intro k
  induction k with
  | zero => rw [chgUp_zero]; omega
  | succ k ih => rw [chgUp_succ]; split <;> split <;> omega
/-- The sum of the changes ahead of an hour. -/
def preS (pages : List (Int × Int)) (k : Nat) : Nat → Int
  | 0 => 0
  | h + 1 => preS pages k h + chgUp pages (h : Int) k
theorem preS_zero (pages : List (Int × Int)) (k : Nat) : preS pages k 0 = 0 := rfl
theorem preS_succ (pages : List (Int × Int)) (k h : Nat) : preS pages k (h + 1) = preS pages k h + chgUp pages (h : Int) k := rfl
theorem preS_none (pages : List (Int × Int)) : ∀ h, preS pages 0 h = 0 := by
  intro h
  induction h with
  | zero => rfl
  | succ h ih => rw [preS_succ, ih, chgUp_zero]; rfl
theorem preS_step (pages : List (Int × Int)) (k : Nat) (h0 : 0 ≤ (pages[k]!).1) (h1 : (pages[k]!).1 ≤ (pages[k]!).2) : ∀ h : Nat,
    preS pages (k + 1) h = preS pages k h + (if (pages[k]!).1 < (h : Int) then 1 else 0) - (if (pages[k]!).2 + 1 < (h : Int) then 1 else 0) := by
  intro h
  induction h with
  | zero => rw [preS_zero, preS_zero, if_neg (by omega), if_neg (by omega)]; rfl
  | succ h ih =>
    rw [preS_succ, preS_succ, ih, chgUp_succ]
    push_cast
    split <;> split <;> split <;> split <;> split <;> split <;> omega
theorem preS_many (pages : List (Int × Int)) (hp : ∀ k, k < pages.length → 0 ≤ (pages[k]!).1 ∧ (pages[k]!).1 ≤ (pages[k]!).2) (h : Nat) : ∀ k, k ≤ pages.length → preS pages k (h + 1) = manyUp pages (h : Int) k := by
  intro k
  induction k with
  | zero => intro _; rw [preS_none]; rfl
  | succ k ih =>
    intro hk
    obtain ⟨a, b⟩ := hp k (by omega)
    rw [preS_step pages k a b, manyUp_succ, ih (by omega)]
    have e : inB (h : Int) (pages[k]!).1 (pages[k]!).2 = decide ((pages[k]!).1 ≤ (h : Int) ∧ (h : Int) ≤ (pages[k]!).2) := by
      rw [Bool.eq_iff_iff, inB_iff, decide_eq_true_iff]
    rw [e]
    push_cast
    simp only [decide_eq_true_iff]
    split <;> split <;> split <;> omega
/-- One more hour of a stretch. -/
def strStep (out : List (Int × Int)) (h : Int) : List (Int × Int) :=
  if 0 < out.length ∧ (out[out.length - 1]!).2 = h - 1 then out.set (out.length - 1) ((out[out.length - 1]!).1, h) else out ++ [(h, h)]
/-- The stretches of the hours that are so. -/
def strUp (f : Int → Bool) : Nat → List (Int × Int)
  | 0 => []
  | h + 1 => if f (h : Int) then strStep (strUp f h) (h : Int) else strUp f h
theorem strUp_zero (f : Int → Bool) : strUp f 0 = [] := rfl
theorem strUp_succ (f : Int → Bool) (h : Nat) : strUp f (h + 1) = if f (h : Int) then strStep (strUp f h) (h : Int) else strUp f h := rfl
theorem strStep_len (out : List (Int × Int)) (h : Int) : (strStep out h).length ≤ out.length + 1 := by
  unfold strStep
  split
  · rw [List.length_set]; omega
  · rw [List.length_append, List.length_singleton]; omega
theorem strUp_len (f : Int → Bool) : ∀ h, (strUp f h).length ≤ h := by
  intro h
  induction h with
  | zero => exact Nat.le_refl _
  | succ h ih =>
    rw [strUp_succ]
    split
    · have := strStep_len (strUp f h) (h : Int); omega
    · omega
theorem strUp_ext {f g : Int → Bool} : ∀ h : Nat, (∀ i : Nat, i < h → f (i : Int) = g (i : Int)) → strUp f h = strUp g h := by
  intro h
  induction h with
  | zero => intro _; rfl
  | succ h ih =>
    intro hf
    rw [strUp_succ, strUp_succ, ih (fun i hi => hf i (by omega)), hf h (by omega)]
theorem pages_of {hours : Int} {pages : List (Int × Int)} (h : pagesE hours pages = 0) : (0 ≤ hours ∧ hours ≤ 100000) ∧ pages.length ≤ 20 ∧ ∀ k, k < pages.length → 0 ≤ (pages[k]!).1 ∧ (pages[k]!).1 ≤ (pages[k]!).2 ∧ (pages[k]!).2 ≤ hours - 1 := by
  unfold pagesE at h
  split at h
  · omega
  · split at h
    · omega
    · split at h
      · omega
      · rename_i h1 h2 h3
        refine ⟨?_, by omega, fun k hk => ?_⟩
        · simpa [inB] using h1
        · have : badPage hours pages[k]! = false := by
            simp only [List.any_eq_true, not_exists, not_and, Bool.not_eq_true] at h3
            exact h3 _ (by rw [getElem!_pos pages k hk]; exact List.getElem_mem hk)
          simp only [badPage, inB, Bool.not_eq_false', Bool.and_eq_true, decide_eq_true_iff] at this
          omega
end Go.Proofs.YtchnhjffpldpiaaDoor
