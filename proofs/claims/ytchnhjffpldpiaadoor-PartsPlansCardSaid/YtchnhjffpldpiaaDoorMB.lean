/- Load, Counted, OwnI, AppI, Turn, Series, PCp. -/
import Derived.Test.YtchnhjffpldpiaaDoorMA
import Derived.ArgAppend
import Derived.Maps.AppendAt
import Derived.Deep.AppendLies
import Derived.OwnWalkIn
import Derived.WalkKit
import Derived.Deep.QuietTactic
import Derived.BigQuiet
/- The counting of loads as plain functions on lists. No program. -/
namespace Go.Proofs.YtchnhjffpldpiaaDoor

/-- One load more for the turning points. -/
def turnStep (out : List Int) (n : Int) : List Int :=
  if 0 < out.length ∧ out[out.length - 1]! = n then out
  else if 1 < out.length ∧ (out[out.length - 2]! < out[out.length - 1]! ↔ out[out.length - 1]! < n) then out.set (out.length - 1) n
  else out ++ [n]
def turnP (zs : List Int) : List Int := zs.foldl turnStep []

theorem turnP_nil : turnP [] = [] := rfl
theorem turnP_snoc (zs : List Int) (x : Int) : turnP (zs ++ [x]) = turnStep (turnP zs) x := by simp [turnP]
theorem turnP_take (zs : List Int) (k : Nat) (h : k < zs.length) : turnP (zs.take (k + 1)) = turnStep (turnP (zs.take k)) zs[k]! := by
  rw [List.take_succ_eq_append_getElem h, turnP_snoc, getElem!_pos zs k h]
theorem turnStep_len (out : List Int) (n : Int) : (turnStep out n).length ≤ out.length + 1 := by
  unfold turnStep
  split
  · omega
  · split
    · simp
    · simp
theorem turnStep_ne (out : List Int) (n : Int) : turnStep out n ≠ [] := by
  unfold turnStep
  split
  · rename_i h; intro e; rw [e] at h; simp at h
  · split
    · rename_i h; intro e; have := congrArg List.length e; simp at this; rw [this] at h; simp at h
    · simp
theorem turnStep_one_eq (p : Int) : turnStep [p] p = [p] := by
  unfold turnStep; rw [if_pos ⟨by simp, rfl⟩]
theorem turnStep_one (p y : Int) (h : ¬ p = y) : turnStep [p] y = [p] ++ [y] := by
  unfold turnStep; rw [if_neg (fun e => h e.2), if_neg (fun e => by simp at e)]
theorem turnStep_eq (out : List Int) (y : Int) (q : Nat) (hq : out.length = q + 2) (h : out[q + 1]! = y) : turnStep out y = out := by
  unfold turnStep
  rw [hq, show q + 2 - 1 = q + 1 from rfl, if_pos ⟨by omega, h⟩]
theorem turnStep_set (out : List Int) (y : Int) (q : Nat) (hq : out.length = q + 2) (h : ¬ out[q + 1]! = y) (h2 : out[q]! < out[q + 1]! ↔ out[q + 1]! < y) : turnStep out y = out.set (q + 1) y := by
  unfold turnStep
  rw [hq, show q + 2 - 1 = q + 1 from rfl, show q + 2 - 2 = q from rfl, if_neg (fun e => h e.2), if_pos ⟨by omega, h2⟩]
theorem turnStep_app (out : List Int) (y : Int) (q : Nat) (hq : out.length = q + 2) (h : ¬ out[q + 1]! = y) (h2 : ¬ (out[q]! < out[q + 1]! ↔ out[q + 1]! < y)) : turnStep out y = out ++ [y] := by
  unfold turnStep
  rw [hq, show q + 2 - 1 = q + 1 from rfl, show q + 2 - 2 = q from rfl, if_neg (fun e => h e.2), if_neg (fun e => h2 e.2)]
theorem turnP_len (zs : List Int) : (turnP zs).length ≤ zs.length := by
  unfold turnP
  have : ∀ (zs out : List Int), (zs.foldl turnStep out).length ≤ out.length + zs.length := by
    intro zs
    induction zs with
    | nil => intro out; simp
    | cons z zs ih => intro out; have := ih (turnStep out z); have := turnStep_len out z; simp only [List.foldl_cons, List.length_cons]; omega
  have := this zs []
  simpa using this

/-- The amount of a difference. -/
def dist (a b : Int) : Int := max (a - b) (b - a)

/-- What one turning point more yields, and the pile behind it. -/
def shrink : Nat → List Int → List (Int × Int) → List Int × List (Int × Int)
  | 0, pile, out => (pile, out)
  | f + 1, pile, out =>
    let n := pile.length
    if 3 ≤ n then
      if dist pile[n - 1]! pile[n - 2]! < dist pile[n - 2]! pile[n - 3]! then (pile, out)
      else if n = 3 then shrink f (pile.drop 1) (out ++ [(dist pile[n - 2]! pile[n - 3]!, 1)])
      else shrink f (pile.take (n - 3) ++ [pile[n - 1]!]) (out ++ [(dist pile[n - 2]! pile[n - 3]!, 2)])
    else (pile, out)
def pileStep (s : List Int × List (Int × Int)) (p : Int) : List Int × List (Int × Int) := shrink (s.1.length + 1) (s.1 ++ [p]) s.2
def pileP (ts : List Int) : List Int × List (Int × Int) := ts.foldl pileStep ([], [])
/-- What is left on the pile, from the i-th on. -/
def restP (pile : List Int) : List (Int × Int) := (List.range (pile.length - 1)).map fun i => (dist pile[i + 1]! pile[i]!, 1)
def cycP (zs : List Int) : List (Int × Int) := (pileP (turnP zs)).2 ++ restP (pileP (turnP zs)).1

theorem shrink_pre : ∀ (f : Nat) (pile : List Int) (out : List (Int × Int)), ∃ more, (shrink f pile out).2 = out ++ more := by
  intro f
  induction f with
  | zero => intro pile out; exact ⟨[], by simp [shrink]⟩
  | succ f ih =>
    intro pile out
    unfold shrink
    simp only
    split
    · split
      · exact ⟨[], by simp⟩
      · split
        · obtain ⟨m, h⟩ := ih (pile.drop 1) (out ++ [(dist pile[pile.length - 2]! pile[pile.length - 3]!, 1)])
          exact ⟨_, by rw [h, List.append_assoc]⟩
        · obtain ⟨m, h⟩ := ih (pile.take (pile.length - 3) ++ [pile[pile.length - 1]!]) (out ++ [(dist pile[pile.length - 2]! pile[pile.length - 3]!, 2)])
          exact ⟨_, by rw [h, List.append_assoc]⟩
    · exact ⟨[], by simp⟩
theorem shrink_len : ∀ (f : Nat) (pile : List Int) (out : List (Int × Int)), pile.length ≤ f → (shrink f pile out).1.length ≤ pile.length := by
  intro f
  induction f with
  | zero => intro pile out h; simp [shrink]
  | succ f ih =>
    intro pile out h
    unfold shrink
    simp only
    split
    · split
      · exact Nat.le_refl _
      · split
        · have := ih (pile.drop 1) (out ++ [(dist pile[pile.length - 2]! pile[pile.length - 3]!, 1)]) (by simp; omega)
          simp at this ⊢; omega
        · have := ih (pile.take (pile.length - 3) ++ [pile[pile.length - 1]!]) (out ++ [(dist pile[pile.length - 2]! pile[pile.length - 3]!, 2)]) (by simp; omega)
          simp at this ⊢; omega
    · exact Nat.le_refl _

theorem pileP_snoc (ts : List Int) (p : Int) : pileP (ts ++ [p]) = pileStep (pileP ts) p := by simp [pileP]
theorem pileP_take (ts : List Int) (k : Nat) (h : k < ts.length) : pileP (ts.take (k + 1)) = pileStep (pileP (ts.take k)) ts[k]! := by
  rw [List.take_succ_eq_append_getElem h, pileP_snoc, getElem!_pos ts k h]
theorem pileStep_len (s : List Int × List (Int × Int)) (p : Int) : (pileStep s p).1.length ≤ s.1.length + 1 := by
  have := shrink_len (s.1.length + 1) (s.1 ++ [p]) s.2 (by simp)
  simpa [pileStep] using this
theorem pileP_len (ts : List Int) : (pileP ts).1.length ≤ ts.length := by
  have : ∀ (ts : List Int) (s : List Int × List (Int × Int)), (ts.foldl pileStep s).1.length ≤ s.1.length + ts.length := by
    intro ts
    induction ts with
    | nil => intro s; simp
    | cons t ts ih => intro s; have := ih (pileStep s t); have := pileStep_len s t; simp only [List.foldl_cons, List.length_cons]; omega
  have := this ts ([], [])
  simpa [pileP] using this
theorem pileStep_pre (s : List Int × List (Int × Int)) (p : Int) : s.2 <+: (pileStep s p).2 := by
  obtain ⟨m, h⟩ := shrink_pre (s.1.length + 1) (s.1 ++ [p]) s.2
  exact ⟨m, by rw [pileStep, h]⟩
theorem pile_pre (ts : List Int) (s : List Int × List (Int × Int)) : s.2 <+: (ts.foldl pileStep s).2 := by
  induction ts generalizing s with
  | nil => exact List.prefix_refl _
  | cons t ts ih => exact (pileStep_pre s t).trans (ih _)
/-- What has been yielded behind k turning points begins all. -/
theorem pileP_pre (zs : List Int) (k : Nat) : (pileP ((turnP zs).take k)).2 <+: cycP zs := by
  refine List.IsPrefix.trans ?_ (List.prefix_append _ _)
  have h := pile_pre ((turnP zs).drop k) (pileP ((turnP zs).take k))
  have e : pileP (turnP zs) = ((turnP zs).drop k).foldl pileStep (pileP ((turnP zs).take k)) := by
    unfold pileP
    rw [← List.foldl_append, List.take_append_drop]
  rw [e]; exact h
theorem shrink_end (f : Nat) (pile : List Int) (out : List (Int × Int)) (h : pile.length < 3) : shrink f pile out = (pile, out) := by
  cases f with
  | zero => rfl
  | succ f => unfold shrink; simp only; rw [if_neg (by omega)]
theorem shrink_stop (f q : Nat) (pile : List Int) (out : List (Int × Int)) (hq : pile.length = q + 3) (h : dist pile[q + 2]! pile[q + 1]! < dist pile[q + 1]! pile[q]!) : shrink f pile out = (pile, out) := by
  cases f with
  | zero => rfl
  | succ f =>
    unfold shrink
    simp only
    rw [hq, if_pos (by omega), show q + 3 - 1 = q + 2 from rfl, show q + 3 - 2 = q + 1 from rfl, show q + 3 - 3 = q from rfl, if_pos h]
theorem shrink_succ (f : Nat) (pile : List Int) (out : List (Int × Int)) : shrink (f + 1) pile out =
    if 3 ≤ pile.length then
      if dist pile[pile.length - 1]! pile[pile.length - 2]! < dist pile[pile.length - 2]! pile[pile.length - 3]! then (pile, out)
      else if pile.length = 3 then shrink f (pile.drop 1) (out ++ [(dist pile[pile.length - 2]! pile[pile.length - 3]!, 1)])
      else shrink f (pile.take (pile.length - 3) ++ [pile[pile.length - 1]!]) (out ++ [(dist pile[pile.length - 2]! pile[pile.length - 3]!, 2)])
    else (pile, out) := rfl
theorem shrink_one (f : Nat) (pile : List Int) (out : List (Int × Int)) (hq : pile.length = 3) (h : ¬ dist pile[2]! pile[1]! < dist pile[1]! pile[0]!) : shrink (f + 1) pile out = shrink f (pile.drop 1) (out ++ [(dist pile[1]! pile[0]!, 1)]) := by
  rw [shrink_succ, hq, if_pos (by omega), show 3 - 1 = 2 from rfl, show 3 - 2 = 1 from rfl, show 3 - 3 = 0 from rfl, if_neg h, if_pos rfl]
theorem shrink_two (f q : Nat) (pile : List Int) (out : List (Int × Int)) (hq : pile.length = q + 4) (h : ¬ dist pile[q + 3]! pile[q + 2]! < dist pile[q + 2]! pile[q + 1]!) :
    shrink (f + 1) pile out = shrink f (pile.take (q + 1) ++ [pile[q + 3]!]) (out ++ [(dist pile[q + 2]! pile[q + 1]!, 2)]) := by
  rw [shrink_succ, hq, if_pos (by omega), show q + 4 - 1 = q + 3 from rfl, show q + 4 - 2 = q + 2 from rfl, show q + 4 - 3 = q + 1 from rfl, if_neg h, if_neg (by omega)]

theorem turnStep_mem (out : List Int) (n x : Int) (h : x ∈ turnStep out n) : x ∈ out ∨ x = n := by
  unfold turnStep at h
  split at h
  · exact .inl h
  · split at h
    · exact List.mem_or_eq_of_mem_set h
    · simpa using h
theorem turnP_mem (zs : List Int) (x : Int) (h : x ∈ turnP zs) : x ∈ zs := by
  have : ∀ (zs out : List Int), x ∈ zs.foldl turnStep out → x ∈ out ∨ x ∈ zs := by
    intro zs
    induction zs with
    | nil => intro out h; exact .inl h
    | cons z zs ih =>
      intro out h
      rcases ih _ h with h | h
      · rcases turnStep_mem _ _ _ h with h | h
        · exact .inl h
        · exact .inr (by rw [h]; exact List.mem_cons_self)
      · exact .inr (List.mem_cons_of_mem _ h)
  rcases this zs [] h with h | h
  · cases h
  · exact h
theorem get_mem (l : List Int) (i : Nat) (h : i < l.length) : l[i]! ∈ l := by
  rw [getElem!_pos l i h]; exact List.getElem_mem h
theorem shrink_mem (x : Int) : ∀ (f : Nat) (pile : List Int) (out : List (Int × Int)), x ∈ (shrink f pile out).1 → x ∈ pile := by
  intro f
  induction f with
  | zero => intro pile out h; exact h
  | succ f ih =>
    intro pile out h
    rw [shrink_succ] at h
    split at h
    · split at h
      · exact h
      · split at h
        · exact List.mem_of_mem_drop (ih _ _ h)
        · rcases List.mem_append.1 (ih _ _ h) with h | h
          · exact List.mem_of_mem_take h
          · have : x = pile[pile.length - 1]! := by simpa using h
            rw [this]; exact get_mem _ _ (by omega)
    · exact h
theorem pileP_mem (ts : List Int) (x : Int) (h : x ∈ (pileP ts).1) : x ∈ ts := by
  have : ∀ (ts : List Int) (s : List Int × List (Int × Int)), x ∈ (ts.foldl pileStep s).1 → x ∈ s.1 ∨ x ∈ ts := by
    intro ts
    induction ts with
    | nil => intro s h; exact .inl h
    | cons t ts ih =>
      intro s h
      rcases ih _ h with h | h
      · have := shrink_mem x _ _ _ h
        rcases List.mem_append.1 this with h | h
        · exact .inl h
        · exact .inr (by rw [show x = t by simpa using h]; exact List.mem_cons_self)
      · exact .inr (List.mem_cons_of_mem _ h)
  rcases this ts ([], []) h with h | h
  · cases h
  · exact h

/-- What the first j places of the rest yield. -/
def restUp (pile : List Int) (j : Nat) : List (Int × Int) := (List.range (j - 1)).map fun i => (dist pile[i + 1]! pile[i]!, 1)
theorem restUp_all (pile : List Int) : restUp pile pile.length = restP pile := rfl
theorem restUp_zero (pile : List Int) : restUp pile 0 = [] := rfl
theorem restUp_one (pile : List Int) : restUp pile 1 = [] := rfl
theorem restUp_succ (pile : List Int) (i : Nat) : restUp pile (i + 1 + 1) = restUp pile (i + 1) ++ [(dist pile[i + 1]! pile[i]!, 1)] := by
  simp [restUp, List.range_succ]
theorem restUp_pre (pile : List Int) (i : Nat) (h : i + 1 < pile.length) : restUp pile (i + 1) ++ [(dist pile[i + 1]! pile[i]!, 1)] <+: restP pile := by
  rw [← restUp_succ]
  refine ⟨(restP pile).drop (i + 1), ?_⟩
  have : restUp pile (i + 1 + 1) = (restP pile).take (i + 1) := by
    unfold restUp restP
    rw [← List.map_take, List.take_range, show i + 1 + 1 - 1 = i + 1 from rfl, Nat.min_eq_left (by omega)]
  rw [this, List.take_append_drop]

theorem shrink_sum : ∀ (f : Nat) (pile : List Int) (out : List (Int × Int)), (shrink f pile out).1.length + (shrink f pile out).2.length ≤ pile.length + out.length := by
  intro f
  induction f with
  | zero => intro pile out; exact Nat.le_refl _
  | succ f ih =>
    intro pile out
    rw [shrink_succ]
    split
    · split
      · exact Nat.le_refl _
      · split
        · refine Nat.le_trans (ih _ _) ?_
          simp; omega
        · refine Nat.le_trans (ih _ _) ?_
          simp; omega
    · exact Nat.le_refl _
theorem pileP_sum (ts : List Int) : (pileP ts).1.length + (pileP ts).2.length ≤ ts.length := by
  have : ∀ (ts : List Int) (s : List Int × List (Int × Int)), (ts.foldl pileStep s).1.length + (ts.foldl pileStep s).2.length ≤ s.1.length + s.2.length + ts.length := by
    intro ts
    induction ts with
    | nil => intro s; exact Nat.le_refl _
    | cons t ts ih =>
      intro s
      have h1 := ih (pileStep s t)
      have h2 := shrink_sum (s.1.length + 1) (s.1 ++ [t]) s.2
      simp only [List.foldl_cons, List.length_cons]
      have h3 : (pileStep s t).1.length + (pileStep s t).2.length ≤ s.1.length + 1 + s.2.length := by
        refine Nat.le_trans h2 ?_
        simp
      omega
  have := this ts ([], [])
  simpa [pileP] using this
theorem cycP_len (zs : List Int) : (cycP zs).length ≤ zs.length := by
  have h1 := pileP_sum (turnP zs)
  have h2 := turnP_len zs
  unfold cycP restP
  simp
  omega
end Go.Proofs.YtchnhjffpldpiaaDoor

/- The counting of loads: what PartsCounted says of it. No program. -/
namespace Go.Proofs.YtchnhjffpldpiaaDoor

theorem g_last (A : List Int) (p : Int) : (A ++ [p])[(A ++ [p]).length - 1]! = p := by
  rw [List.length_append, List.length_singleton, Nat.add_sub_cancel, getElem!_pos _ _ (by simp)]
  simp
theorem g_prev (A : List Int) (p : Int) : (A ++ [p])[(A ++ [p]).length - 2]! = if A = [] then p else A[A.length - 1]! := by
  rw [List.length_append, List.length_singleton]
  by_cases h : A = []
  · subst h; simp
  · have : 0 < A.length := List.length_pos_iff.2 h
    rw [if_neg h, show A.length + 1 - 2 = A.length - 1 by omega, getElem!_pos _ _ (by simp; omega), getElem!_pos A _ (by omega), List.getElem_append_left (by omega)]
theorem turnStep_snoc (A : List Int) (p x : Int) : turnStep (A ++ [p]) x = if p = x then A ++ [p] else if A ≠ [] ∧ (A[A.length - 1]! < p ↔ p < x) then A ++ [x] else A ++ [p] ++ [x] := by
  unfold turnStep
  rw [g_last, g_prev]
  by_cases h1 : p = x
  · rw [if_pos ⟨by simp, h1⟩, if_pos h1]
  · rw [if_neg (fun e => h1 e.2), if_neg h1]
    by_cases hA : A = []
    · subst hA; simp
    · have : 0 < A.length := List.length_pos_iff.2 hA
      rw [if_neg hA]
      by_cases h2 : A[A.length - 1]! < p ↔ p < x
      · rw [if_pos ⟨by simp; omega, h2⟩, if_pos ⟨hA, h2⟩]
        rw [List.length_append, List.length_singleton, Nat.add_sub_cancel, List.set_append_right _ _ (Nat.le_refl _)]
        simp
      · rw [if_neg (fun e => h2 e.2), if_neg (fun e => h2 e.2)]
theorem turnStep_empty (x : Int) : turnStep [] x = [x] := rfl
theorem turnStep_end (out : List Int) (x : Int) : ∃ A, turnStep out x = A ++ [x] := by
  rcases List.eq_nil_or_concat out with h | ⟨A, p, h⟩
  · subst h; exact ⟨[], rfl⟩
  · rw [List.concat_eq_append] at h
    subst h
    rw [turnStep_snoc]
    split
    · rename_i e; subst e; exact ⟨A, rfl⟩
    · split
      · exact ⟨A, rfl⟩
      · exact ⟨A ++ [p], rfl⟩
theorem turnStep_twice (out : List Int) (x : Int) : turnStep (turnStep out x) x = turnStep out x := by
  obtain ⟨A, h⟩ := turnStep_end out x
  rw [h, turnStep_snoc, if_pos rfl]

/-! ### A load repeated -/
def dupUp (zs : List Int) (at_ : Int) : Nat → List Int
  | 0 => []
  | k + 1 => dupUp zs at_ k ++ (if (k : Int) = at_ then [zs[k]!, zs[k]!] else [zs[k]!])
theorem dupUp_succ (zs : List Int) (at_ : Int) (k : Nat) : dupUp zs at_ (k + 1) = dupUp zs at_ k ++ (if (k : Int) = at_ then [zs[k]!, zs[k]!] else [zs[k]!]) := rfl
theorem dup_turn (zs : List Int) (at_ : Int) (k : Nat) (hk : k ≤ zs.length) : turnP (dupUp zs at_ k) = turnP (zs.take k) := by
  induction k with
  | zero => rfl
  | succ k ih =>
    rw [turnP_take zs k hk, ← ih (by omega)]
    rw [dupUp_succ]
    split
    · rw [show [zs[k]!, zs[k]!] = [zs[k]!] ++ [zs[k]!] from rfl, ← List.append_assoc, turnP_snoc, turnP_snoc, turnStep_twice]
    · rw [turnP_snoc]
theorem dup_cyc (zs : List Int) (at_ : Int) : cycP (dupUp zs at_ zs.length) = cycP zs := by
  unfold cycP
  rw [dup_turn zs at_ _ (Nat.le_refl _), List.take_length]
theorem dup_mem (zs : List Int) (at_ x : Int) (k : Nat) (hk : k ≤ zs.length) (h : x ∈ dupUp zs at_ k) : x ∈ zs := by
  induction k with
  | zero => cases h
  | succ k ih =>
    unfold dupUp at h
    rcases List.mem_append.1 h with h | h
    · exact ih (by omega) h
    · split at h
      · have : x = zs[k]! := by simpa using h
        rw [this]; exact get_mem _ _ hk
      · have : x = zs[k]! := by simpa using h
        rw [this]; exact get_mem _ _ hk
theorem dup_len (zs : List Int) (at_ : Int) (k : Nat) : (dupUp zs at_ k).length ≤ k + (if at_ < (k : Int) then 1 else 0) := by
  induction k with
  | zero => simp [dupUp]
  | succ k ih =>
    unfold dupUp
    rw [List.length_append]
    split
    · rename_i h
      rw [if_neg (by omega)] at ih
      rw [if_pos (by omega)]
      simp; omega
    · split at ih
      · rw [if_pos (by omega)]; simp; omega
      · split <;> simp <;> omega
theorem dup_len' (zs : List Int) (at_ : Int) (k : Nat) : (dupUp zs at_ k).length ≤ k + 1 := by
  have := dup_len zs at_ k
  split at this <;> omega

/-! ### On stacks: the last one first -/
def stepR : List Int → Int → List Int
  | [], x => [x]
  | [p], x => if p = x then [p] else [x, p]
  | p :: q :: r, x => if p = x then p :: q :: r else if q < p ↔ p < x then x :: q :: r else x :: p :: q :: r
theorem stepR_one (p x : Int) : stepR [p] x = if p = x then [p] else [x, p] := rfl
theorem stepR_two (p q x : Int) (r : List Int) : stepR (p :: q :: r) x = if p = x then p :: q :: r else if q < p ↔ p < x then x :: q :: r else x :: p :: q :: r := rfl
theorem turnStep_rev (s : List Int) (x : Int) : turnStep s.reverse x = (stepR s x).reverse := by
  match s with
  | [] => rfl
  | [p] =>
    show turnStep ([] ++ [p]) x = _
    rw [turnStep_snoc, stepR_one]
    by_cases h : p = x
    · rw [if_pos h, if_pos h]; rfl
    · rw [if_neg h, if_neg h, if_neg (fun h => h.1 rfl)]; rfl
  | p :: q :: r =>
    have e : (p :: q :: r).reverse = (r.reverse ++ [q]) ++ [p] := by simp
    rw [e, turnStep_snoc, g_last, stepR_two]
    by_cases h0 : p = x
    · rw [if_pos h0, if_pos h0]; simp
    · rw [if_neg h0, if_neg h0]
      by_cases h : q < p ↔ p < x
      · rw [if_pos ⟨by simp, h⟩, if_pos h]; simp
      · rw [if_neg (fun h' => h h'.2), if_neg h]; simp
def turnR (zs : List Int) : List Int := zs.foldl stepR []
theorem turnP_rev (zs : List Int) : turnP zs = (turnR zs).reverse := by
  have : ∀ (zs s : List Int), zs.foldl turnStep s.reverse = (zs.foldl stepR s).reverse := by
    intro zs
    induction zs with
    | nil => intro s; rfl
    | cons z zs ih => intro s; simp only [List.foldl_cons]; rw [turnStep_rev, ih]
  exact this zs []

def shrinkR : Nat → List Int → List (Int × Int) → List Int × List (Int × Int)
  | 0, s, out => (s, out)
  | f + 1, c :: b :: a :: r, out =>
    if dist c b < dist b a then (c :: b :: a :: r, out)
    else if r = [] then shrinkR f [c, b] (out ++ [(dist b a, 1)])
    else shrinkR f (c :: r) (out ++ [(dist b a, 2)])
  | _ + 1, s, out => (s, out)

theorem shrinkR_succ (f : Nat) (c b a : Int) (r : List Int) (out : List (Int × Int)) : shrinkR (f + 1) (c :: b :: a :: r) out =
    if dist c b < dist b a then (c :: b :: a :: r, out) else if r = [] then shrinkR f [c, b] (out ++ [(dist b a, 1)]) else shrinkR f (c :: r) (out ++ [(dist b a, 2)]) := rfl
theorem rev3 (c b a : Int) (r : List Int) : (c :: b :: a :: r).reverse[r.length + 2]! = c ∧ (c :: b :: a :: r).reverse[r.length + 1]! = b ∧ (c :: b :: a :: r).reverse[r.length]! = a := by
  refine ⟨?_, ?_, ?_⟩
  all_goals
    rw [getElem!_pos _ _ (by simp)]
    simp [List.getElem_append_right]
theorem shrink_rev : ∀ (f : Nat) (s : List Int) (out : List (Int × Int)), shrink f s.reverse out = ((shrinkR f s out).1.reverse, (shrinkR f s out).2) := by
  intro f
  induction f with
  | zero => intro s out; rfl
  | succ f ih =>
    intro s out
    match s with
    | [] => rfl
    | [_] => rfl
    | [_, _] => rfl
    | c :: b :: a :: r =>
      obtain ⟨e1, e2, e3⟩ := rev3 c b a r
      have hl : (c :: b :: a :: r).reverse.length = r.length + 3 := by simp
      rw [shrink_succ, hl, if_pos (by omega), show r.length + 3 - 1 = r.length + 2 from rfl, show r.length + 3 - 2 = r.length + 1 from rfl, show r.length + 3 - 3 = r.length from rfl, e1, e2, e3]
      rw [shrinkR_succ]
      by_cases hd : dist c b < dist b a
      · rw [if_pos hd, if_pos hd]
      · rw [if_neg hd, if_neg hd]
        by_cases hr : r = []
        · subst hr
          rw [if_pos (show ([] : List Int).length + 3 = 3 from rfl), if_pos rfl, show (c :: b :: a :: []).reverse.drop 1 = [c, b].reverse from rfl, ih]
        · rw [if_neg (by have := List.length_pos_iff.2 hr; omega), if_neg hr]
          rw [show (c :: b :: a :: r).reverse.take r.length ++ [c] = (c :: r).reverse by
            rw [show (c :: b :: a :: r).reverse = r.reverse ++ [a, b, c] by simp, List.take_append_of_le_length (by simp), List.take_of_length_le (by simp)]
            simp, ih]
def pileR (ts : List Int) : List Int × List (Int × Int) := ts.foldl (fun s p => shrinkR (s.1.length + 1) (p :: s.1) s.2) ([], [])
theorem pileP_rev (ts : List Int) : pileP ts = ((pileR ts).1.reverse, (pileR ts).2) := by
  have : ∀ (ts : List Int) (s : List Int) (out : List (Int × Int)), ts.foldl pileStep (s.reverse, out) = ((ts.foldl (fun s p => shrinkR (s.1.length + 1) (p :: s.1) s.2) (s, out)).1.reverse, (ts.foldl (fun s p => shrinkR (s.1.length + 1) (p :: s.1) s.2) (s, out)).2) := by
    intro ts
    induction ts with
    | nil => intro s out; rfl
    | cons t ts ih =>
      intro s out
      simp only [List.foldl_cons]
      have e : pileStep (s.reverse, out) t = ((shrinkR (s.length + 1) (t :: s) out).1.reverse, (shrinkR (s.length + 1) (t :: s) out).2) := by
        unfold pileStep
        simp only [List.length_reverse]
        rw [← shrink_rev, List.reverse_cons]
      rw [e, ih]
  exact this ts [] []

/-! ### The turning points turn -/
def Alt : List Int → Prop
  | [] => True
  | [_] => True
  | [b, a] => a ≠ b
  | c :: b :: a :: r => b ≠ c ∧ ¬ (a < b ↔ b < c) ∧ Alt (b :: a :: r)
theorem Alt.step {s : List Int} (h : Alt s) (x : Int) : Alt (stepR s x) := by
  match s, h with
  | [], _ => trivial
  | [p], _ =>
    rw [stepR_one]
    by_cases e : p = x
    · rw [if_pos e]; trivial
    · rw [if_neg e]; exact e
  | [p, q], h =>
    rw [stepR_two]
    have h : q ≠ p := h
    by_cases e : p = x
    · rw [if_pos e]; exact h
    · rw [if_neg e]
      by_cases t : q < p ↔ p < x
      · rw [if_pos t]; show q ≠ x; omega
      · rw [if_neg t]; exact ⟨e, t, h⟩
  | p :: q :: z :: r, h =>
    rw [stepR_two]
    obtain ⟨h1, h2, h3⟩ := h
    by_cases e : p = x
    · rw [if_pos e]; exact ⟨h1, h2, h3⟩
    · rw [if_neg e]
      by_cases t : q < p ↔ p < x
      · rw [if_pos t]; exact ⟨by omega, by omega, h3⟩
      · rw [if_neg t]; exact ⟨e, t, h1, h2, h3⟩
theorem Alt.tail {c : Int} {s : List Int} (h : Alt (c :: s)) : Alt s := by
  match s, h with
  | [], _ => trivial
  | [_], _ => trivial
  | _ :: _ :: _, h => exact h.2.2
theorem Alt.ne {b a : Int} {r : List Int} (h : Alt (b :: a :: r)) : a ≠ b := by
  match r, h with
  | [], h => exact h
  | _ :: _, h => exact h.1
theorem fold_inv {α β : Type} (P : β → Prop) (f : β → α → β) (hf : ∀ s x, P s → P (f s x)) : ∀ (zs : List α) (s : β), P s → P (zs.foldl f s) := by
  intro zs
  induction zs with
  | nil => intro s h; exact h
  | cons z zs ih => intro s h; exact ih _ (hf s z h)
theorem alt_turn (zs : List Int) : Alt (turnR zs) := fold_inv Alt stepR (fun _ x h => h.step x) zs [] trivial

/-! ### All signs changed, or a number added -/
theorem neg_step (s : List Int) (x : Int) (h : Alt s) : stepR (s.map fun a => -a) (-x) = (stepR s x).map fun a => -a := by
  match s, h with
  | [], _ => rfl
  | [p], _ =>
    show stepR [-p] (-x) = _
    rw [stepR_one, stepR_one]
    by_cases e : p = x
    · rw [if_pos (by omega), if_pos e]; rfl
    · rw [if_neg (by omega), if_neg e]; rfl
  | p :: q :: r, h =>
    have := h.ne
    show stepR (-p :: -q :: r.map fun a => -a) (-x) = _
    rw [stepR_two, stepR_two]
    by_cases e : p = x
    · rw [if_pos (by omega), if_pos e]; rfl
    · rw [if_neg (by omega), if_neg e]
      by_cases t : q < p ↔ p < x
      · rw [if_pos (by omega), if_pos t]; rfl
      · rw [if_neg (by omega), if_neg t]; rfl
theorem neg_turn (zs : List Int) : turnR (zs.map fun a => -a) = (turnR zs).map fun a => -a := by
  have : ∀ (zs s : List Int), Alt s → (zs.map fun a => -a).foldl stepR (s.map fun a => -a) = (zs.foldl stepR s).map fun a => -a := by
    intro zs
    induction zs with
    | nil => intro s _; rfl
    | cons z zs ih => intro s h; simp only [List.map_cons, List.foldl_cons]; rw [neg_step s z h, ih _ (h.step z)]
  exact this zs [] trivial
theorem dist_neg (a b : Int) : dist (-a) (-b) = dist a b := by unfold dist; omega
theorem dist_add (a b m : Int) : dist (a + m) (b + m) = dist a b := by unfold dist; omega
theorem map_shrink (g : Int → Int) (hg : ∀ a b, dist (g a) (g b) = dist a b) : ∀ (f : Nat) (s : List Int) (out : List (Int × Int)), shrinkR f (s.map g) out = ((shrinkR f s out).1.map g, (shrinkR f s out).2) := by
  intro f
  induction f with
  | zero => intro s out; rfl
  | succ f ih =>
    intro s out
    match s with
    | [] => rfl
    | [_] => rfl
    | [_, _] => rfl
    | c :: b :: a :: r =>
      show shrinkR (f + 1) (g c :: g b :: g a :: r.map g) out = _
      rw [shrinkR_succ, shrinkR_succ, hg, hg]
      by_cases hd : dist c b < dist b a
      · rw [if_pos hd, if_pos hd]; rfl
      · rw [if_neg hd, if_neg hd]
        by_cases hr : r = []
        · subst hr
          rw [if_pos (show List.map g [] = [] from rfl), if_pos rfl]; exact ih [c, b] _
        · rw [if_neg (by simpa using hr), if_neg hr]; exact ih (c :: r) _
theorem map_pile (g : Int → Int) (hg : ∀ a b, dist (g a) (g b) = dist a b) (ts : List Int) : pileR (ts.map g) = ((pileR ts).1.map g, (pileR ts).2) := by
  have : ∀ (ts s : List Int) (out : List (Int × Int)), (ts.map g).foldl (fun s p => shrinkR (s.1.length + 1) (p :: s.1) s.2) (s.map g, out) = ((ts.foldl (fun s p => shrinkR (s.1.length + 1) (p :: s.1) s.2) (s, out)).1.map g, (ts.foldl (fun s p => shrinkR (s.1.length + 1) (p :: s.1) s.2) (s, out)).2) := by
    intro ts
    induction ts with
    | nil => intro s out; rfl
    | cons t ts ih =>
      intro s out
      simp only [List.map_cons, List.foldl_cons, List.length_map]
      rw [show g t :: s.map g = (t :: s).map g from rfl, map_shrink g hg, ih]
  exact this ts [] []
theorem map_rest (g : Int → Int) (hg : ∀ a b, dist (g a) (g b) = dist a b) (pile : List Int) : restP (pile.map g) = restP pile := by
  unfold restP
  rw [List.length_map]
  refine List.map_congr_left fun i hi => ?_
  have hi := List.mem_range.1 hi
  rw [getElem!_pos (pile.map g) (i + 1) (by rw [List.length_map]; omega), getElem!_pos (pile.map g) i (by rw [List.length_map]; omega), getElem!_pos pile (i + 1) (by omega), getElem!_pos pile i (by omega), List.getElem_map, List.getElem_map, hg]
theorem map_cyc (g : Int → Int) (hg : ∀ a b, dist (g a) (g b) = dist a b) (zs : List Int) (ht : turnP (zs.map g) = (turnP zs).map g) : cycP (zs.map g) = cycP zs := by
  unfold cycP
  rw [ht, pileP_rev, pileP_rev, map_pile g hg]
  simp only
  rw [← List.map_reverse, map_rest g hg]
theorem neg_cyc (zs : List Int) : cycP (zs.map fun a => -a) = cycP zs :=
  map_cyc _ (fun a b => dist_neg a b) zs (by rw [turnP_rev, turnP_rev, neg_turn, List.map_reverse])
theorem add_step (s : List Int) (x m : Int) : stepR (s.map fun a => a + m) (x + m) = (stepR s x).map fun a => a + m := by
  match s with
  | [] => rfl
  | [p] =>
    show stepR [p + m] (x + m) = _
    rw [stepR_one, stepR_one]
    by_cases e : p = x
    · rw [if_pos (by omega), if_pos e]; rfl
    · rw [if_neg (by omega), if_neg e]; rfl
  | p :: q :: r =>
    show stepR ((p + m) :: (q + m) :: r.map fun a => a + m) (x + m) = _
    rw [stepR_two, stepR_two]
    by_cases e : p = x
    · rw [if_pos (by omega), if_pos e]; rfl
    · rw [if_neg (by omega), if_neg e]
      by_cases t : q < p ↔ p < x
      · rw [if_pos (by omega), if_pos t]; rfl
      · rw [if_neg (by omega), if_neg t]; rfl
theorem add_cyc (zs : List Int) (m : Int) : cycP (zs.map fun a => a + m) = cycP zs := by
  have h : ∀ (zs s : List Int), (zs.map fun a => a + m).foldl stepR (s.map fun a => a + m) = (zs.foldl stepR s).map fun a => a + m := by
    intro zs
    induction zs with
    | nil => intro s; rfl
    | cons z zs ih => intro s; simp only [List.map_cons, List.foldl_cons]; rw [add_step, ih]
  have h2 : turnR (zs.map fun a => a + m) = (turnR zs).map fun a => a + m := h zs []
  exact map_cyc _ (fun a b => dist_add a b m) zs (by rw [turnP_rev, turnP_rev, h2, List.map_reverse])

/-! ### The halves -/
def hsum (l : List (Int × Int)) : Int := (l.map Prod.snd).foldr (· + ·) 0
theorem hsum_nil : hsum [] = 0 := rfl
theorem hsum_cons (x : Int × Int) (l : List (Int × Int)) : hsum (x :: l) = x.2 + hsum l := rfl
theorem hsum_append (l l' : List (Int × Int)) : hsum (l ++ l') = hsum l + hsum l' := by
  induction l with
  | nil => rw [List.nil_append, hsum_nil, Int.zero_add]
  | cons x l ih => rw [List.cons_append, hsum_cons, hsum_cons, ih, Int.add_assoc]
theorem hsum_one (x : Int × Int) : hsum [x] = x.2 := by rw [hsum_cons, hsum_nil, Int.add_zero]
def Halves (l : List (Int × Int)) : Prop := ∀ x ∈ l, x.2 = 1 ∨ x.2 = 2
theorem shrink_h : ∀ (f : Nat) (s : List Int) (out : List (Int × Int)), hsum (shrinkR f s out).2 + ((shrinkR f s out).1.length : Int) = hsum out + (s.length : Int) ∧ (Halves out → Halves (shrinkR f s out).2) ∧ (s ≠ [] → (shrinkR f s out).1 ≠ []) := by
  intro f
  induction f with
  | zero => intro s out; exact ⟨rfl, id, id⟩
  | succ f ih =>
    intro s out
    match s with
    | [] => exact ⟨rfl, id, id⟩
    | [_] => exact ⟨rfl, id, id⟩
    | [_, _] => exact ⟨rfl, id, id⟩
    | c :: b :: a :: r =>
      rw [shrinkR_succ]
      by_cases hd : dist c b < dist b a
      · rw [if_pos hd]; exact ⟨rfl, id, id⟩
      · rw [if_neg hd]
        by_cases hr : r = []
        · subst hr
          rw [if_pos rfl]
          obtain ⟨h1, h2, h3⟩ := ih [c, b] (out ++ [(dist b a, 1)])
          refine ⟨?_, fun h => h2 ?_, fun _ => h3 (by simp)⟩
          · rw [h1, hsum_append, hsum_one]; simp; omega
          · intro x hx
            rcases List.mem_append.1 hx with h' | h'
            · exact h x h'
            · rw [show x = _ by simpa using h']; exact .inl rfl
        · rw [if_neg hr]
          obtain ⟨h1, h2, h3⟩ := ih (c :: r) (out ++ [(dist b a, 2)])
          refine ⟨?_, fun h => h2 ?_, fun _ => h3 (by simp)⟩
          · rw [h1, hsum_append, hsum_one]; simp; omega
          · intro x hx
            rcases List.mem_append.1 hx with h' | h'
            · exact h x h'
            · rw [show x = _ by simpa using h']; exact .inr rfl
theorem pile_h (ts : List Int) : hsum (pileR ts).2 + ((pileR ts).1.length : Int) = ts.length ∧ Halves (pileR ts).2 ∧ (ts ≠ [] → (pileR ts).1 ≠ []) := by
  have : ∀ (ts s : List Int) (out : List (Int × Int)), hsum (ts.foldl (fun s p => shrinkR (s.1.length + 1) (p :: s.1) s.2) (s, out)).2 + ((ts.foldl (fun s p => shrinkR (s.1.length + 1) (p :: s.1) s.2) (s, out)).1.length : Int) = hsum out + s.length + ts.length ∧
      (Halves out → Halves (ts.foldl (fun s p => shrinkR (s.1.length + 1) (p :: s.1) s.2) (s, out)).2) ∧ (s ≠ [] ∨ ts ≠ [] → (ts.foldl (fun s p => shrinkR (s.1.length + 1) (p :: s.1) s.2) (s, out)).1 ≠ []) := by
    intro ts
    induction ts with
    | nil => intro s out; exact ⟨by simp, id, fun h => h.elim id (fun h => absurd rfl h)⟩
    | cons t ts ih =>
      intro s out
      simp only [List.foldl_cons]
      obtain ⟨h1, h2, h3⟩ := shrink_h (s.length + 1) (t :: s) out
      obtain ⟨k1, k2, k3⟩ := ih (shrinkR (s.length + 1) (t :: s) out).1 (shrinkR (s.length + 1) (t :: s) out).2
      refine ⟨?_, fun h => k2 (h2 h), fun _ => k3 (.inl (h3 (by simp)))⟩
      rw [k1, h1]; simp only [List.length_cons]; omega
  obtain ⟨h1, h2, h3⟩ := this ts [] []
  refine ⟨?_, h2 (fun _ h => by cases h), fun h => h3 (.inr h)⟩
  have h1' : hsum (pileR ts).2 + ((pileR ts).1.length : Int) = hsum [] + (([] : List Int).length : Int) + ts.length := h1
  rw [h1', hsum_nil]; simp
theorem rest_h (pile : List Int) : hsum (restP pile) = ((pile.length - 1 : Nat) : Int) ∧ Halves (restP pile) := by
  unfold restP
  constructor
  · generalize pile.length - 1 = n
    induction n with
    | zero => rfl
    | succ n ih => rw [List.range_succ, List.map_append, hsum_append, ih]; rw [List.map_singleton, hsum_one]; omega
  · intro x hx
    obtain ⟨i, _, rfl⟩ := List.mem_map.1 hx
    exact .inl rfl
theorem cyc_halves (zs : List Int) : hsum (cycP zs) = ((turnP zs).length - 1 : Nat) ∧ Halves (cycP zs) := by
  unfold cycP
  obtain ⟨h1, h2, h3⟩ := pile_h (turnP zs)
  rw [pileP_rev]
  obtain ⟨r1, r2⟩ := rest_h (pileR (turnP zs)).1.reverse
  constructor
  · rw [hsum_append, r1, List.length_reverse]
    show hsum (pileR (turnP zs)).2 + _ = _
    by_cases e : turnP zs = []
    · rw [e]; rfl
    · have h4 := List.length_pos_iff.2 (h3 e)
      have h5 := List.length_pos_iff.2 e
      omega
  · intro x hx
    rcases List.mem_append.1 hx with h | h
    · exact h2 x h
    · exact r2 x h

/-! ### The greatest range -/
def InHull (l : List Int) (x : Int) : Prop := (∃ a ∈ l, a ≤ x) ∧ ∃ b ∈ l, x ≤ b
theorem InHull.mem {l : List Int} {x : Int} (h : x ∈ l) : InHull l x := ⟨⟨x, h, Int.le_refl _⟩, x, h, Int.le_refl _⟩
theorem InHull.trans {l l' : List Int} {x : Int} (h : InHull l x) (hl : ∀ y ∈ l, InHull l' y) : InHull l' x := by
  obtain ⟨⟨a, ha, hax⟩, b, hb, hxb⟩ := h
  obtain ⟨⟨a', ha', h1⟩, _⟩ := hl a ha
  obtain ⟨_, b', hb', h2⟩ := hl b hb
  exact ⟨⟨a', ha', by omega⟩, b', hb', by omega⟩
theorem InHull.between {l : List Int} {x a b : Int} (ha : a ∈ l) (hb : b ∈ l) (h : (a ≤ x ∧ x ≤ b) ∨ (b ≤ x ∧ x ≤ a)) : InHull l x := by
  rcases h with h | h
  · exact ⟨⟨a, ha, h.1⟩, b, hb, h.2⟩
  · exact ⟨⟨b, hb, h.1⟩, a, ha, h.2⟩
theorem step_hull (s : List Int) (x : Int) : (∀ y ∈ s, InHull (stepR s x) y) ∧ InHull (stepR s x) x := by
  match s with
  | [] => exact ⟨(fun _ h => by cases h), InHull.mem (by simp [stepR])⟩
  | [p] =>
    rw [stepR_one]
    by_cases e : p = x
    · rw [if_pos e]; exact ⟨fun y hy => InHull.mem hy, InHull.mem (by simp [e])⟩
    · rw [if_neg e]; exact ⟨fun y hy => InHull.mem (List.mem_cons_of_mem _ hy), InHull.mem (by simp)⟩
  | p :: q :: r =>
    rw [stepR_two]
    by_cases e : p = x
    · rw [if_pos e]; exact ⟨fun y hy => InHull.mem hy, InHull.mem (by simp [e])⟩
    · rw [if_neg e]
      by_cases t : q < p ↔ p < x
      · rw [if_pos t]
        refine ⟨fun y hy => ?_, InHull.mem (by simp)⟩
        rcases List.mem_cons.1 hy with h | h
        · subst h; exact InHull.between (a := q) (b := x) (by simp) (by simp) (by omega)
        · exact InHull.mem (List.mem_cons_of_mem _ h)
      · rw [if_neg t]; exact ⟨fun y hy => InHull.mem (List.mem_cons_of_mem _ hy), InHull.mem (by simp)⟩
theorem turn_hull (zs : List Int) : ∀ y ∈ zs, InHull (turnR zs) y := by
  have : ∀ (zs s : List Int) (P : List Int), (∀ y ∈ P, InHull s y) → ∀ y, y ∈ P ∨ y ∈ zs → InHull (zs.foldl stepR s) y := by
    intro zs
    induction zs with
    | nil => intro s P h y hy; exact h y (hy.elim id (fun h => by cases h))
    | cons z zs ih =>
      intro s P h y hy
      have hs := step_hull s z
      refine ih (stepR s z) (z :: P) (fun y hy => ?_) y ?_
      · rcases List.mem_cons.1 hy with e | e
        · subst e; exact hs.2
        · exact (h y e).trans hs.1
      · rcases hy with h | h
        · exact .inl (List.mem_cons_of_mem _ h)
        · rcases List.mem_cons.1 h with e | e
          · exact .inl (by rw [e]; simp)
          · exact .inr e
  exact fun y hy => this zs [] [] (fun _ h => by cases h) y (.inr hy)

/-- Each element of the stack lies strictly between the two below it. -/
def Nest : List Int → Prop
  | [] => True
  | [_] => True
  | [b, a] => a ≠ b
  | c :: b :: a :: r => ((b < c ∧ c < a) ∨ (a < c ∧ c < b)) ∧ Nest (b :: a :: r)
/-- The top may reach beyond; it turns. -/
def Pre : List Int → Prop
  | [] => True
  | [_] => True
  | [b, a] => a ≠ b
  | c :: b :: a :: r => b ≠ c ∧ ¬ (a < b ↔ b < c) ∧ Nest (b :: a :: r)

theorem Nest.tail {c : Int} {s : List Int} (h : Nest (c :: s)) : Nest s := by
  match s, h with
  | [], _ => trivial
  | [_], _ => trivial
  | _ :: _ :: _, h => exact h.2
theorem shrink_nest : ∀ (f : Nat) (s : List Int) (out : List (Int × Int)), s.length ≤ f → Pre s → Nest (shrinkR f s out).1 ∧ (∀ y ∈ s, InHull (shrinkR f s out).1 y) ∧ (∀ y ∈ (shrinkR f s out).1, y ∈ s) ∧
    (∀ c b r, s = c :: b :: r → ∃ b' r', (shrinkR f s out).1 = c :: b' :: r' ∧ (b' < c ↔ b < c)) := by
  intro f
  induction f with
  | zero =>
    intro s out hl h
    have : s = [] := List.eq_nil_of_length_eq_zero (by omega)
    subst this
    exact ⟨trivial, (fun _ h => by cases h), (fun _ h => h), (fun _ _ _ h => by cases h)⟩
  | succ f ih =>
    intro s out hl h
    match s, h with
    | [], _ => exact ⟨trivial, fun y hy => InHull.mem hy, fun _ h => h, (fun _ _ _ h => by cases h)⟩
    | [a], _ => exact ⟨trivial, fun y hy => InHull.mem hy, fun _ h => h, (fun _ _ _ h => by cases h)⟩
    | [b, a], h => exact ⟨h, fun y hy => InHull.mem hy, fun _ h => h, fun c' b' r' e => by cases e; exact ⟨a, [], rfl, Iff.rfl⟩⟩
    | c :: b :: a :: r, ⟨h1, h2, h3⟩ =>
      rw [shrinkR_succ]
      by_cases hd : dist c b < dist b a
      · rw [if_pos hd]
        refine ⟨⟨?_, h3⟩, fun y hy => InHull.mem hy, fun _ h => h, fun c' b' r' e => by cases e; exact ⟨b, a :: r, rfl, Iff.rfl⟩⟩
        unfold dist at hd
        omega
      · rw [if_neg hd]
        unfold dist at hd
        by_cases hr : r = []
        · subst hr
          rw [if_pos rfl]
          obtain ⟨k1, k2, k3, k4⟩ := ih [c, b] (out ++ [(dist b a, 1)]) (by simp only [List.length_cons, List.length_nil] at hl ⊢; omega) h1
          refine ⟨k1, fun y hy => ?_, fun y hy => ?_, fun c' b' r' e => ?_⟩
          · simp only [List.mem_cons, List.not_mem_nil, or_false] at hy
            rcases hy with rfl | rfl | rfl
            · exact k2 _ (by simp)
            · exact k2 _ (by simp)
            · have hab := h3
              unfold Nest at hab
              exact (InHull.between (l := [c, b]) (a := c) (b := b) (by simp) (by simp) (by omega)).trans k2
          · have := k3 y hy
            simp only [List.mem_cons, List.not_mem_nil, or_false] at this ⊢
            rcases this with h | h
            · exact .inl h
            · exact .inr (.inl h)
          · cases e
            exact k4 c b [] rfl
        · rw [if_neg hr]
          obtain ⟨z, r', rfl⟩ := List.exists_cons_of_ne_nil hr
          have h3a := h3.1
          have hpre : Pre (c :: z :: r') := by
            match r', h3 with
            | [], h3 => show z ≠ c; omega
            | y :: r'', h3 =>
              have h4 := h3.2.1
              exact ⟨by omega, by omega, h3.2.2⟩
          obtain ⟨k1, k2, k3, k4⟩ := ih (c :: z :: r') (out ++ [(dist b a, 2)]) (by simp only [List.length_cons] at hl ⊢; omega) hpre
          refine ⟨k1, fun y hy => ?_, fun y hy => ?_, fun c' b' r0 e => ?_⟩
          · rcases List.mem_cons.1 hy with e | hy
            · exact k2 y (by rw [e]; simp)
            · rcases List.mem_cons.1 hy with e | hy
              · subst e; exact (InHull.between (l := c :: z :: r') (a := c) (b := z) (by simp) (by simp) (by omega)).trans k2
              · rcases List.mem_cons.1 hy with e | hy
                · subst e; exact (InHull.between (l := c :: z :: r') (a := c) (b := z) (by simp) (by simp) (by omega)).trans k2
                · exact k2 y (List.mem_cons_of_mem _ hy)
          · have := k3 y hy
            rcases List.mem_cons.1 this with e | h
            · rw [e]; simp
            · exact List.mem_cons_of_mem _ (List.mem_cons_of_mem _ (List.mem_cons_of_mem _ h))
          · cases e
            obtain ⟨b2, r2, e2, e3⟩ := k4 c z r' rfl
            exact ⟨b2, r2, e2, by rw [e3]; omega⟩

/-- The pile of turning points that stand last first. -/
def pileS : List Int → List Int × List (Int × Int)
  | [] => ([], [])
  | t :: l => shrinkR ((pileS l).1.length + 1) (t :: (pileS l).1) (pileS l).2
theorem pileS_eq (l : List Int) : pileR l.reverse = pileS l := by
  unfold pileR
  rw [List.foldl_reverse]
  induction l with
  | nil => rfl
  | cons t l ih => rw [List.foldr_cons, ih]; rfl
theorem pile_nest : ∀ (l : List Int), Alt l → Nest (pileS l).1 ∧ (∀ y ∈ l, InHull (pileS l).1 y) ∧ (∀ y ∈ (pileS l).1, y ∈ l) ∧ (∀ c, l = [c] → (pileS l).1 = [c]) ∧ (∀ c b l', l = c :: b :: l' → ∃ b' r', (pileS l).1 = c :: b' :: r' ∧ (b' < c ↔ b < c)) := by
  intro l
  induction l with
  | nil => intro _; exact ⟨trivial, (fun _ h => by cases h), (fun _ h => h), (fun _ h => by cases h), (fun _ _ _ h => by cases h)⟩
  | cons t l ih =>
    intro hA
    obtain ⟨i1, i2, i3, i4, i5⟩ := ih hA.tail
    have hpre : Pre (t :: (pileS l).1) := by
      match l, hA, i1, i4, i5 with
      | [], _, _, _, _ => trivial
      | [b], hA, _, i4, _ => rw [i4 b rfl]; exact hA
      | b :: a :: l1, hA, i1, _, i5 =>
        obtain ⟨b', r', e, h⟩ := i5 b a l1 rfl
        rw [e] at i1 ⊢
        exact ⟨hA.1, by have := hA.2.1; omega, i1⟩
    obtain ⟨k1, k2, k3, k4⟩ := shrink_nest ((pileS l).1.length + 1) (t :: (pileS l).1) (pileS l).2 (by simp) hpre
    refine ⟨k1, fun y hy => ?_, fun y hy => ?_, fun c e => ?_, fun c b l' e => ?_⟩
    · rcases List.mem_cons.1 hy with h | h
      · exact k2 y (by rw [h]; simp)
      · exact (i2 y h).trans (fun z hz => k2 z (List.mem_cons_of_mem _ hz))
    · rcases List.mem_cons.1 (k3 y hy) with h | h
      · rw [h]; simp
      · exact List.mem_cons_of_mem _ (i3 y h)
    · cases e; rfl
    · cases e
      match l', i4, i5 with
      | [], i4, _ =>
        have e := i4 b rfl
        exact k4 t b [] (by rw [e])
      | a :: l1, _, i5 =>
        obtain ⟨b', r', e, h⟩ := i5 b a l1 rfl
        exact k4 t b (b' :: r') (by rw [e])

theorem nest_bot : ∀ (s : List Int), Nest s → 2 ≤ s.length → ∃ r x1 x0, s = r ++ [x1, x0] ∧ ∀ y ∈ s, (x0 ≤ y ∧ y ≤ x1) ∨ (x1 ≤ y ∧ y ≤ x0) := by
  intro s
  induction s with
  | nil => intro _ h; simp at h
  | cons c s ih =>
    intro h hl
    match s, h with
    | [], _ => simp at hl
    | [a], _ => exact ⟨[], c, a, rfl, fun y hy => by
        simp only [List.mem_cons, List.not_mem_nil, or_false] at hy
        rcases hy with rfl | rfl <;> omega⟩
    | b :: a :: r, h =>
      obtain ⟨r', x1, x0, e, hb⟩ := ih h.2 (by simp)
      refine ⟨c :: r', x1, x0, by rw [e]; rfl, fun y hy => ?_⟩
      rcases List.mem_cons.1 hy with h' | h'
      · subst h'
        have h1 := hb b (by simp)
        have h2 := hb a (by simp)
        have h3 := h.1
        omega
      · exact hb y h'

/-- Each range is the distance of two loads. -/
def Ranges (zs : List Int) (out : List (Int × Int)) : Prop := ∀ x ∈ out, ∃ a ∈ zs, ∃ b ∈ zs, x.1 = dist a b
theorem Ranges.snoc {zs : List Int} {out : List (Int × Int)} (h : Ranges zs out) {a b k : Int} (ha : a ∈ zs) (hb : b ∈ zs) : Ranges zs (out ++ [(dist a b, k)]) := by
  intro x hx
  rcases List.mem_append.1 hx with h' | h'
  · exact h x h'
  · rw [show x = (dist a b, k) by simpa using h']; exact ⟨a, ha, b, hb, rfl⟩
theorem shrink_ranges (zs : List Int) : ∀ (f : Nat) (s : List Int) (out : List (Int × Int)), (∀ y ∈ s, y ∈ zs) → Ranges zs out → Ranges zs (shrinkR f s out).2 ∧ ∀ y ∈ (shrinkR f s out).1, y ∈ zs := by
  intro f
  induction f with
  | zero => intro s out hs ho; exact ⟨ho, hs⟩
  | succ f ih =>
    intro s out hs ho
    match s, hs with
    | [], hs => exact ⟨ho, hs⟩
    | [_], hs => exact ⟨ho, hs⟩
    | [_, _], hs => exact ⟨ho, hs⟩
    | c :: b :: a :: r, hs =>
      have hb : b ∈ zs := hs b (by simp)
      have ha : a ∈ zs := hs a (by simp)
      rw [shrinkR_succ]
      by_cases hd : dist c b < dist b a
      · rw [if_pos hd]; exact ⟨ho, hs⟩
      · rw [if_neg hd]
        by_cases hr : r = []
        · rw [if_pos hr]
          exact ih [c, b] _ (fun y hy => hs y (by simp only [List.mem_cons, List.not_mem_nil, or_false] at hy ⊢; rcases hy with h | h <;> simp [h])) (ho.snoc hb ha)
        · rw [if_neg hr]
          exact ih (c :: r) _ (fun y hy => hs y (by simp only [List.mem_cons] at hy ⊢; rcases hy with h | h <;> simp [h])) (ho.snoc hb ha)
theorem pile_ranges (zs : List Int) : ∀ l : List Int, (∀ y ∈ l, y ∈ zs) → Ranges zs (pileS l).2 ∧ ∀ y ∈ (pileS l).1, y ∈ zs := by
  intro l
  induction l with
  | nil => intro _; exact ⟨(fun _ h => by cases h), (fun _ h => by cases h)⟩
  | cons t l ih =>
    intro h
    obtain ⟨h1, h2⟩ := ih (fun y hy => h y (List.mem_cons_of_mem _ hy))
    exact shrink_ranges zs _ _ _ (fun y hy => by
      rcases List.mem_cons.1 hy with e | e
      · rw [e]; exact h t (by simp)
      · exact h2 y e) h1
theorem rest_ranges (zs pile : List Int) (h : ∀ y ∈ pile, y ∈ zs) : Ranges zs (restP pile) := by
  intro x hx
  obtain ⟨i, hi, rfl⟩ := List.mem_map.1 hx
  have hi := List.mem_range.1 hi
  exact ⟨_, h _ (get_mem pile (i + 1) (by omega)), _, h _ (get_mem pile i (by omega)), rfl⟩
theorem cyc_ranges (zs : List Int) : Ranges zs (cycP zs) := by
  have ht : ∀ y ∈ turnR zs, y ∈ zs := fun y hy => turnP_mem zs y (by rw [turnP_rev]; simpa using hy)
  obtain ⟨h1, h2⟩ := pile_ranges zs (turnR zs) ht
  unfold cycP
  rw [turnP_rev, pileP_rev, pileS_eq]
  intro x hx
  rcases List.mem_append.1 hx with h | h
  · exact h1 x h
  · exact rest_ranges zs _ (fun y hy => h2 y (by simpa using hy)) x h
/-- The greatest range is that between the greatest and the least load. -/
theorem cyc_great (zs : List Int) (lo hi : Int) (hlo : lo ∈ zs) (hhi : hi ∈ zs) (hb : ∀ x ∈ zs, lo ≤ x ∧ x ≤ hi) : (∀ x ∈ cycP zs, 0 ≤ x.1 ∧ x.1 ≤ hi - lo) ∧ (lo = hi ∨ ∃ x ∈ cycP zs, x.1 = hi - lo) := by
  constructor
  · intro x hx
    obtain ⟨a, ha, b, hb', e⟩ := cyc_ranges zs x hx
    have h1 := hb a ha
    have h2 := hb b hb'
    rw [e]; unfold dist; omega
  · obtain ⟨n1, n2, n3, _, _⟩ := pile_nest (turnR zs) (alt_turn zs)
    have ht : ∀ y ∈ turnR zs, y ∈ zs := fun y hy => turnP_mem zs y (by rw [turnP_rev]; simpa using hy)
    have inS : ∀ y ∈ (pileS (turnR zs)).1, y ∈ zs := fun y hy => ht y (n3 y hy)
    have hl : lo ∈ (pileS (turnR zs)).1 := by
      obtain ⟨⟨a, ha, h⟩, _⟩ := (turn_hull zs lo hlo).trans n2
      have := hb a (inS a ha)
      rwa [show lo = a by omega]
    have hh : hi ∈ (pileS (turnR zs)).1 := by
      obtain ⟨_, b, hb', h⟩ := (turn_hull zs hi hhi).trans n2
      have := hb b (inS b hb')
      rwa [show hi = b by omega]
    by_cases h2 : 2 ≤ (pileS (turnR zs)).1.length
    · obtain ⟨r, x1, x0, e, hbt⟩ := nest_bot _ n1 h2
      have m1 := hb x1 (inS x1 (by rw [e]; simp))
      have m0 := hb x0 (inS x0 (by rw [e]; simp))
      have q1 := hbt lo hl
      have q2 := hbt hi hh
      refine .inr ⟨(dist x1 x0, 1), ?_, by show dist x1 x0 = hi - lo; unfold dist; omega⟩
      unfold cycP
      rw [turnP_rev, pileP_rev, pileS_eq]
      refine List.mem_append.2 (.inr ?_)
      unfold restP
      refine List.mem_map.2 ⟨0, List.mem_range.2 (by rw [List.length_reverse]; omega), ?_⟩
      rw [e]
      simp
    · left
      match hq : (pileS (turnR zs)).1, hl, hh, h2 with
      | [], hl, _, _ => cases hl
      | [c], hl, hh, _ => simp at hl hh; omega
      | _ :: _ :: _, _, _, h2 => simp at h2
end Go.Proofs.YtchnhjffpldpiaaDoor

/- A slice of integers that a call owns, wherever in its block it begins; append onto it. No walk. -/
namespace Go.Proofs.YtchnhjffpldpiaaDoor
open Go Go.RowKit

/-- v is nil, or a slice of the cells xs in a block from B on. -/
def OwnI (E : TypeId) (w : World) (B : Nat) (v : Value) (xs : List Int) : Prop :=
  (v = .slice none 0 0 ∧ xs = []) ∨
  ∃ (g off cap : Nat) (cur : List Value), v = .slice (some ⟨g, off, none⟩) xs.length cap ∧ B ≤ g ∧ w.heap[g]? = some (.cells cur.toArray E (0, 0)) ∧ 0 < xs.length ∧ xs.length ≤ cap ∧ off + cap ≤ cur.length ∧ cap ≤ maxLen ∧ ∀ j, j < xs.length → cur[off + j]? = some (.int .i64 xs[j]!)

variable {E : TypeId} {w w' : World} {B : Nat} {v : Value} {xs : List Int} {g off n cap : Nat}

theorem OwnI.nil : OwnI E w B (.slice none 0 0) [] := .inl ⟨rfl, rfl⟩
theorem OwnI.up {B' : Nat} (h : OwnI E w B v xs) (hB : B' ≤ B) : OwnI E w B' v xs := by
  rcases h with h | ⟨g, off, cap, cur, h1, h2, h3⟩
  · exact .inl h
  · exact .inr ⟨g, off, cap, cur, h1, Nat.le_trans hB h2, h3⟩
/-- Where its own block lies as it lay, it is as it was. -/
theorem OwnI.kept (h : OwnI E w B v xs) (hk : ∀ g, v.ownBlock = some g → w'.heap[g]? = w.heap[g]?) : OwnI E w' B v xs := by
  rcases h with h | ⟨g, off, cap, cur, h1, h2, h3, h4⟩
  · exact .inl h
  · exact .inr ⟨g, off, cap, cur, h1, h2, (hk g (by rw [h1]; rfl)).trans h3, h4⟩
theorem OwnI.own (h : OwnI E w B v xs) {g : Nat} (hg : v.ownBlock = some g) : B ≤ g ∧ g < w.heap.size := by
  rcases h with ⟨h, _⟩ | ⟨g', off, cap, cur, h1, h2, h3, h4⟩
  · rw [h] at hg; cases hg
  · rw [h1] at hg; cases hg; exact ⟨h2, (Array.getElem?_eq_some_iff.1 h3).1⟩
theorem OwnI.below (h : OwnI E w B v xs) (hb : Below w.heap.size w w') : OwnI E w' B v xs :=
  h.kept fun _ hg => hb.block _ (h.own hg).2
theorem OwnI.form (h : OwnI E w B v xs) (hne : xs ≠ []) : ∃ g off cap, v = .slice (some ⟨g, off, none⟩) xs.length cap ∧ xs.length ≤ cap ∧ cap ≤ maxLen ∧ B ≤ g ∧ g < w.heap.size ∧
    ∀ j, j < xs.length → w.cell? ⟨g, off + j, none⟩ = some (.int .i64 xs[j]!) ∧ w.frozen? ⟨g, off + j, none⟩ = false := by
  rcases h with ⟨_, h⟩ | ⟨g, off, cap, cur, h1, h2, h3, h4, h5, h6, h7, h8⟩
  · exact absurd h hne
  · exact ⟨g, off, cap, h1, h5, h7, h2, (Array.getElem?_eq_some_iff.1 h3).1, fun j hj => ⟨by simp [World.cell?, h3, h8 j hj], by simp [World.frozen?, h3]⟩⟩
theorem OwnI.view (h : OwnI E w B v xs) : ∃ ao cap, v = .slice ao xs.length cap ∧ xs.length ≤ cap ∧ cap ≤ maxLen ∧ (0 < xs.length → ∃ g off, ao = some ⟨g, off, none⟩) := by
  rcases h with ⟨h1, h2⟩ | ⟨g, off, cap, cur, h1, h2, h3, h4, h5, h6, h7, h8⟩
  · subst h2; exact ⟨none, 0, h1, Nat.le_refl _, by simp [maxLen], fun h => by simp at h⟩
  · exact ⟨_, cap, h1, h5, h7, fun _ => ⟨g, off, rfl⟩⟩
theorem OwnI.cells (h : OwnI E w B (.slice (some ⟨g, off, none⟩) n cap) xs) : ∀ j, j < xs.length → w.cell? ⟨g, off + j, none⟩ = some (.int .i64 xs[j]!) := by
  rcases h with ⟨h, _⟩ | ⟨g', off', cap', cur, h1, h2, h3, h4, h5, h6, h7, h8⟩
  · cases h
  · cases h1
    intro j hj
    simp [World.cell?, h3, h8 j hj]
theorem OwnI.at (h : OwnI E w B (.slice (some ⟨g, off, none⟩) n cap) xs) : ∃ cur : List Value, n = xs.length ∧ B ≤ g ∧ w.heap[g]? = some (.cells cur.toArray E (0, 0)) ∧ 0 < xs.length ∧ xs.length ≤ cap ∧ off + cap ≤ cur.length ∧ cap ≤ maxLen ∧ ∀ j, j < xs.length → cur[off + j]? = some (.int .i64 xs[j]!) := by
  rcases h with ⟨h, _⟩ | ⟨g', off', cap', cur, h1, h2⟩
  · cases h
  · injection h1 with e1 e2 e3
    injection e1 with e1
    injection e1 with e4 e5
    subst e3 e4 e5
    exact ⟨cur, e2, h2⟩

theorem OwnI.caps (h : OwnI E w B (.slice (some ⟨g, off, none⟩) n cap) xs) : xs.length ≤ cap ∧ cap ≤ 9223372036854775807 := by
  obtain ⟨_, _, _, _, _, h5, _, h7, _⟩ := h.at
  simp only [maxLen] at h7
  exact ⟨h5, by omega⟩

theorem heap_set {b : Nat} {c : List Value} {T : TypeId} {f : Nat × Nat} (h : w.heap[b]? = some (.cells c.toArray T f)) (o : Nat) (v : Value) :
    (w.setCell ⟨b, o, none⟩ v).heap[b]? = some (.cells (c.set o v).toArray T f) := by
  simp [World.setCell, Array.getElem?_modify, h]

theorem getset (l : List Int) (k i : Nat) (x : Int) (hk : k < l.length) : (l.set k x)[i]! = if i = k then x else l[i]! := by
  by_cases h : i = k
  · subst h; simp [hk]
  · rw [if_neg h]
    simp only [List.getElem!_eq_getElem?_getD]
    rw [List.getElem?_set_ne (by omega)]

/-- A store into an element. -/
theorem OwnI.set (h : OwnI E w B (.slice (some ⟨g, off, none⟩) n cap) xs) (j : Nat) (hj : j < xs.length) (x : Int) :
    OwnI E (w.setCell ⟨g, off + j, none⟩ (.int .i64 x)) B (.slice (some ⟨g, off, none⟩) n cap) (xs.set j x) := by
  obtain ⟨cur, e, h2, h3, h4, h5, h6, h7, h8⟩ := h.at
  refine .inr ⟨g, off, cap, cur.set (off + j) (.int .i64 x), by rw [List.length_set, e], h2, heap_set h3 _ _, by rw [List.length_set]; exact h4, by rw [List.length_set]; exact h5, by rw [List.length_set]; exact h6, h7, fun i hi => ?_⟩
  rw [List.length_set] at hi
  rw [getset xs j i x hj]
  by_cases e2 : i = j
  · subst e2; rw [if_pos rfl, List.getElem?_set_self (by omega)]
  · rw [if_neg e2, List.getElem?_set_ne (by omega)]; exact h8 i hi

/-- A part of it: the first k elements dropped. -/
theorem OwnI.drop (h : OwnI E w B (.slice (some ⟨g, off, none⟩) n cap) xs) (k : Nat) (hk : k < xs.length) :
    OwnI E w B (.slice (some ⟨g, off + k, none⟩) (n - k) (cap - k)) (xs.drop k) := by
  obtain ⟨cur, e, h2, h3, h4, h5, h6, h7, h8⟩ := h.at
  refine .inr ⟨g, off + k, cap - k, cur, by rw [List.length_drop, e], h2, h3, by rw [List.length_drop]; omega, by rw [List.length_drop]; omega, by omega, by omega, fun j hj => ?_⟩
  rw [List.length_drop] at hj
  have := h8 (k + j) (by omega)
  rw [← Nat.add_assoc] at this
  rw [this]
  congr 2
  rw [getElem!_pos (xs.drop k) j (by rw [List.length_drop]; omega), List.getElem_drop, getElem!_pos xs (k + j) (by omega)]

theorem OwnI.of_row (h : w.ownsRow B E 1 v xs.length (xs.map (Value.int .i64))) (hne : 0 < xs.length) : OwnI E w B v xs := by
  rcases h.2 with ⟨_, h⟩ | ⟨g, cap, cur, h1, h2, h3, h4, h5, h6, h7⟩
  · omega
  · refine .inr ⟨g, 0, cap, cur.toList, h1, h2, by simpa using h3, hne, h4, by rw [Array.length_toList]; omega, h5, fun j hj => ?_⟩
    have : (cur.toList.take (xs.length * 1))[j]? = (xs.map (Value.int .i64))[j]? := by rw [h7]
    rw [List.getElem?_take_of_lt (by omega)] at this
    rw [Nat.zero_add, this, List.getElem?_map, getElem!_pos xs j hj, List.getElem?_eq_getElem hj]
    rfl

theorem map_cells (xs : List Int) (j : Nat) (u : Value) (h : (xs.map (Value.int .i64))[j]? = some u) : j < xs.length ∧ u = .int .i64 xs[j]! := by
  rw [List.getElem?_map] at h
  cases hj : xs[j]? with
  | none => rw [hj] at h; cases h
  | some x =>
    rw [hj] at h
    injection h with h
    have hlt := (List.getElem?_eq_some_iff.1 hj).1
    exact ⟨hlt, by rw [← h, getElem!_pos xs j hlt, (List.getElem?_eq_some_iff.1 hj).2]⟩

theorem grown_any {own : Option Nat} (h : w.grownBy w' none) : w.grownBy w' own := ⟨h.os, h.tape, h.output, h.size, fun k hk _ => h.block k hk (by simp)⟩

/-- append onto it, of one element. -/
theorem run_append_I {P : Program} (w : World) (t ty : TypeId) (i : TypeInfo) (ht : P.underlying t = some (.slice E)) (hi : P.info? E = some i) (hz : i.zero = some (.int .i64 0)) (hs : i.size = 1) (hb : i.bytes = 8)
    (h : OwnI E w B v xs) (hB : B ≤ w.heap.size) (ab c : Nat) (x : Int) (hx : w.cell? ⟨ab, 0, none⟩ = some (.int .i64 x)) (hl : xs.length ≤ 1000000) :
    ∃ g off cap w', (Builtin.append_ #[t, t] ty #[v, .slice (some ⟨ab, 0, none⟩) 1 c]).run P w = .ok (.slice (some ⟨g, off, none⟩) (xs.length + 1) cap) w' ∧
      OwnI E w' B (.slice (some ⟨g, off, none⟩) (xs.length + 1) cap) (xs ++ [x]) ∧ w.grownBy w' v.ownBlock ∧ (v.ownBlock = some g ∨ w.heap.size ≤ g) := by
  have hnews : ∀ j u, [Value.int .i64 x][j]? = some u → w.cell? ((⟨ab, 0, none⟩ : Addr).add j) = some u := by
    intro j u hu
    cases j with
    | zero => injection hu with hu; rw [← hu, Addr.add_lit]; exact hx
    | succ j => cases hu
  have h63 : xs.length + 1 ≤ maxLen := by simp only [maxLen]; omega
  have hby : (xs.length + 1) * 8 ≤ 140737488355328 := by omega
  have one : ∀ u ∈ [Value.int .i64 x], u.oneCell' = true := by simp [Value.oneCell']
  -- a new row
  have fin : ∀ v' w1, w1.ownsRow w.heap.size E 1 v' (xs.length + 1) (xs.map (Value.int .i64) ++ [.int .i64 x]) → ∃ g off cap, v' = .slice (some ⟨g, off, none⟩) (xs.length + 1) cap ∧ OwnI E w1 w.heap.size v' (xs ++ [x]) := by
    intro v' w1 ho
    have ho' : w1.ownsRow w.heap.size E 1 v' (xs ++ [x]).length ((xs ++ [x]).map (Value.int .i64)) := by simpa using ho
    have := OwnI.of_row ho' (by simp)
    obtain ⟨g, off, cap, e, _⟩ := this.form (by simp)
    exact ⟨g, off, cap, by rw [e]; simp, this⟩
  rcases h with ⟨rfl, rfl⟩ | ⟨g, off, cap, cur, rfl, h2, h3, h4, h5, h6, h7, h8⟩
  · obtain ⟨v', w1, hr, r1, r2, _, r3⟩ := run_append_own_at (P := P) w w.heap.size t ty E i (.int .i64 0) 1 8 ht hi hz hs hb rfl (by decide) (.slice none 0 0) 0 [] (World.ownsRow_nil w _ E 1) ⟨ab, 0, none⟩ 1 c [.int .i64 x] rfl hnews one (by simpa using h63) (by omega) (Nat.le_refl _)
    obtain ⟨g, off, cap, e, ho⟩ := fin v' w1 (by simpa using r1)
    refine ⟨g, off, cap, w1, by rw [hr, e], by rw [← e]; exact ho.up hB, r2, .inr ?_⟩
    rcases r3 with r3 | r3
    · rw [e] at r3; cases r3
    · rw [e] at r3; exact Nat.le_of_eq (by simpa [Value.ownBlock] using r3.symm)
  · by_cases hroom : xs.length + 1 ≤ cap
    · have hr := run_append_room_cells (P := P) w t ty E i ht hi g off xs.length cap ⟨ab, 0, none⟩ 1 c [.int .i64 x] (by rw [hs]; rfl) hnews one hroom
        (fun j hj => by
          have : j = 0 := by simpa using hj
          subst this
          rw [hs]
          simp only [Nat.mul_one, Nat.add_zero, World.cell?, h3]
          simp
          omega)
        (fun j hj => by simp [World.frozen?, h3])
      rw [hs, Nat.mul_one] at hr
      refine ⟨g, off, cap, _, hr, .inr ⟨g, off, cap, cur.set (off + xs.length) (.int .i64 x), by simp, h2, heap_set h3 _ _, by simp, by simpa using hroom, by rw [List.length_set]; exact h6, h7, fun j hj => ?_⟩, ?_, .inl rfl⟩
      · have hj' : j < xs.length + 1 := by simpa using hj
        rw [getElem!_pos (xs ++ [x]) j hj]
        by_cases e : j = xs.length
        · subst e; rw [List.getElem?_set_self (by omega)]; simp
        · rw [List.getElem?_set_ne (by omega), h8 j (by omega), getElem!_pos xs j (by omega), List.getElem_append_left (by omega)]
      · refine ⟨rfl, rfl, rfl, ?_, fun k hk hne => ?_⟩
        · show w.heap.size ≤ (w.setCell _ _).heap.size
          simp [World.setCell]
        · show (w.setCell ⟨g, off + xs.length, none⟩ _).heap[k]? = _
          exact Below.heap_setCell _ _ _ _ (fun e => hne (by rw [e]; rfl))
    · obtain ⟨v', w1, hr, r1, r2⟩ := run_append_arg_grows (P := P) w t ty E i (.int .i64 0) 1 8 ht hi hz hs hb rfl (by decide) ⟨g, off, none⟩ xs.length cap (xs.map (Value.int .i64)) (by simp)
        (fun j u hu => by
          obtain ⟨hj, rfl⟩ := map_cells xs j u hu
          rw [Addr.add_lit]
          simp [World.cell?, h3, h8 j hj]) ⟨ab, 0, none⟩ 1 c [.int .i64 x] rfl hnews (by omega) h63 hby
      obtain ⟨g', off', cap', e, ho⟩ := fin v' w1 r1
      refine ⟨g', off', cap', w1, by rw [hr, e], by rw [← e]; exact ho.up hB, grown_any r2, .inr ?_⟩
      rw [e] at ho
      exact (ho.own rfl).1

/-- Ahead of an append: the element boxed. -/
theorem app_pre {W wr : World} {B0 : Nat} (hb : Below B0 w wr) (hB : B0 ≤ w.heap.size) (ho : OwnI E wr B0 v xs) (hW : Below wr.heap.size wr W) (y : Int) (T : TypeId) :
    OwnI E (W.alloc (.cells #[.int .i64 y] T)) B0 v xs ∧ B0 ≤ (W.alloc (.cells #[.int .i64 y] T)).heap.size ∧ (W.alloc (.cells #[.int .i64 y] T)).cell? ⟨W.heap.size, 0, none⟩ = some (.int .i64 y) := by
  refine ⟨ho.below (hW.alloc hW.size _), ?_, ?_⟩
  · have h1 := hb.size; have h2 := hW.size; rw [World.size_alloc]; omega
  · have := heap_alloc_new W (.cells #[.int .i64 y] T)
    simp only [World.cell?, this]
    rfl
/-- Behind it. -/
theorem app_post {W wr w1 : World} {B0 : Nat} (hb : Below B0 w wr) (hB : B0 ≤ w.heap.size) (ho : OwnI E wr B0 v xs) (hW : Below wr.heap.size wr W) {o : Obj} (G : (W.alloc o).grownBy w1 v.ownBlock) : Below B0 w w1 := by
  have h1 := hb.size
  have h2 := hW.size
  refine ((hb.trans (hW.mono (by omega))).alloc (by omega) o).grown G (by rw [World.size_alloc]; omega) fun k hk => (ho.own hk).1
end Go.Proofs.YtchnhjffpldpiaaDoor

/- append of one integer, at the walk's lists of operations. -/
namespace Go.Proofs.YtchnhjffpldpiaaDoor
open Go Go.RowKit

variable {E : TypeId} {B : Nat} {v : Value} {xs : List Int}

theorem wpList_append_I {P : Program} (w : World) {ops : Array Oper} {rest : List Oper} {o : Oper} {a : Act} {Q : Exit → Act → World → Prop} (hgd : o.guard = none) (s x : Operand) (t : TypeId)
    (ho : o.op = .call { callee := .builtin .append, args := #[s, x], argTypes := #[t, t] }) (i : TypeInfo) (ht : P.underlying t = some (.slice E)) (hi : P.info? E = some i) (hz : i.zero = some (.int .i64 0)) (hs : i.size = 1) (hb : i.bytes = 8)
    (v : Value) (xs : List Int) (hv : a.eval s = v) (B : Nat) (h : OwnI E w B v xs) (hB : B ≤ w.heap.size) (ab c : Nat) (y : Int) (hx' : a.eval x = .slice (some ⟨ab, 0, none⟩) 1 c) (hx : w.cell? ⟨ab, 0, none⟩ = some (.int .i64 y)) (hl : xs.length ≤ 1000000)
    (hk : ∀ g off cap w', OwnI E w' B (.slice (some ⟨g, off, none⟩) (xs.length + 1) cap) (xs ++ [y]) → w.grownBy w' v.ownBlock → (v.ownBlock = some g ∨ w.heap.size ≤ g) → wpList P ops Q rest (a.put o.dst (.slice (some ⟨g, off, none⟩) (xs.length + 1) cap)) w') :
    wpList P ops Q (o :: rest) a w := by
  refine wpList_plain hgd fun K hK => ?_
  obtain ⟨g, off, cap, w', hr, h2, h3, h4⟩ := run_append_I (P := P) w t o.type i ht hi hz hs hb h hB ab c y hx hl
  unfold Oper.wp execOp
  simp only [ho, resolve, invoke, builtin, Sem.run_bind, Sem.run_pure, Result.andThen_ok, List.map_toArray, List.map_cons, List.map_nil, hv, hx', hr]
  exact hK _ _ (hk g off cap w' h2 h3 h4)

theorem wpListIn_append_I {F : Fence} {n : Nat} {P : Program} (w : World) {ops : Array Oper} {rest : List Oper} {o : Oper} {a : Act} {Q : Exit → Act → World → Prop} (hgd : o.guard = none) (s x : Operand) (t : TypeId)
    (ho : o.op = .call { callee := .builtin .append, args := #[s, x], argTypes := #[t, t] }) (i : TypeInfo) (ht : P.underlying t = some (.slice E)) (hi : P.info? E = some i) (hz : i.zero = some (.int .i64 0)) (hs : i.size = 1) (hb : i.bytes = 8)
    (v : Value) (xs : List Int) (hv : a.eval s = v) (B : Nat) (h : OwnI E w B v xs) (hB : B ≤ w.heap.size) (ab c : Nat) (y : Int) (hx' : a.eval x = .slice (some ⟨ab, 0, none⟩) 1 c) (hx : w.cell? ⟨ab, 0, none⟩ = some (.int .i64 y)) (hl : xs.length ≤ 1000000)
    (hk : ∀ g off cap w', OwnI E w' B (.slice (some ⟨g, off, none⟩) (xs.length + 1) cap) (xs ++ [y]) → w.grownBy w' v.ownBlock → (v.ownBlock = some g ∨ w.heap.size ≤ g) → wpListIn F n P ops Q rest (a.put o.dst (.slice (some ⟨g, off, none⟩) (xs.length + 1) cap)) w') :
    wpListIn F n P ops Q (o :: rest) a w := by
  refine wpListIn_plain hgd fun K hK => ?_
  obtain ⟨g, off, cap, w', hr, h2, h3, h4⟩ := run_append_I (P := P) w t o.type i ht hi hz hs hb h hB ab c y hx hl
  unfold Oper.wpIn
  refine ⟨?_, ?_⟩
  · simp [Oper.about, ho, resolve, Target.leads, Sem.run_pure]
  · rw [Oper.semAt_plain F _ _ (by rw [ho]; intro c hc'; cases hc')]
    simp [execOp, ho, resolve, invoke, builtin, hv, hx', hr, Result.andThen]
    exact hK _ _ (hk g off cap w' h2 h3 h4)

/-- append, and where the new slice lies, inside a fence. -/
theorem wpListIn_append_lies {F : Fence} {n : Nat} {P : Program} (w : World) {ops : Array Oper} {rest : List Oper} {o : Oper} {a : Act} {Q : Exit → Act → World → Prop} (hgd : o.guard = none) (s x : Operand) (t : TypeId)
    (ho : o.op = .call { callee := .builtin .append, args := #[s, x], argTypes := #[t, t] })
    (base : Nat) (e : TypeId) (i : TypeInfo) (z : Value) (size bytes : Nat) (ht : P.underlying t = some (.slice e)) (hi : P.info? e = some i) (hz : i.zero = some z)
    (hsize : i.size = size) (hby : i.bytes = bytes) (hzs : z.cells.size = size) (hsz : 0 < size)
    (v : Value) (k : Nat) (xs : List Value) (hs : a.eval s = v) (hown : w.ownsRow base e size v k xs)
    (ad : Addr) (m c : Nat) (news : List Value) (hx : a.eval x = .slice (some ad) m c) (hl : news.length = m * size) (hnews : ∀ j u, news[j]? = some u → w.cell? (ad.add j) = some u) (h1 : ∀ u ∈ news, u.oneCell' = true)
    (hm : 0 < m) (h63 : k + m ≤ maxLen) (hbytes : (k + m) * bytes ≤ 140737488355328) (hbase : base ≤ w.heap.size)
    (h : ∀ g cap w', w'.ownsRow base e size (.slice (some ⟨g, 0, none⟩) (k + m) cap) (k + m) (xs ++ news) → w.grownBy w' v.ownBlock → (v.ownBlock = some g ∨ g = w.heap.size) → wpListIn F n P ops Q rest (a.put o.dst (.slice (some ⟨g, 0, none⟩) (k + m) cap)) w') : wpListIn F n P ops Q (o :: rest) a w := by
  refine wpListIn_plain hgd fun K hK => ?_
  obtain ⟨g, cap, w', hr, h2, h3, h4, _⟩ := run_append_lies (P := P) w t o.type base e i z size bytes ht hi hz hsize hby hzs hsz v k xs hown ad m c news hl hnews h1 hm h63 hbytes hbase w.heap.size rfl
  unfold Oper.wpIn
  refine ⟨?_, ?_⟩
  · simp [Oper.about, ho, resolve, Target.leads, Sem.run_pure]
  · rw [Oper.semAt_plain F _ _ (by rw [ho]; intro c hc'; cases hc')]
    simp [execOp, ho, resolve, invoke, builtin, hs, hx, hr, Result.andThen]
    exact hK _ _ (h g cap w' h2 h3 h4)

/-- The same at a step of a region that draws its order. -/
theorem step_append_I {P : Program} (w : World) {ops : Array Oper} {o : Oper} {a : Act} {K : Act → World → Prop} {Q : Exit → Act → World → Prop} {G : Prop} (hgd : o.guard = none) (s x : Operand) (t : TypeId)
    (ho : o.op = .call { callee := .builtin .append, args := #[s, x], argTypes := #[t, t] }) (i : TypeInfo) (ht : P.underlying t = some (.slice E)) (hi : P.info? E = some i) (hz : i.zero = some (.int .i64 0)) (hs : i.size = 1) (hb : i.bytes = 8)
    (v : Value) (xs : List Int) (hv : a.eval s = v) (B : Nat) (h : OwnI E w B v xs) (hB : B ≤ w.heap.size) (ab c : Nat) (y : Int) (hx' : a.eval x = .slice (some ⟨ab, 0, none⟩) 1 c) (hx : w.cell? ⟨ab, 0, none⟩ = some (.int .i64 y)) (hl : xs.length ≤ 1000000)
    (hk : ∀ g off cap w', OwnI E w' B (.slice (some ⟨g, off, none⟩) (xs.length + 1) cap) (xs ++ [y]) → w.grownBy w' v.ownBlock → (v.ownBlock = some g ∨ w.heap.size ≤ g) → K (a.put o.dst (.slice (some ⟨g, off, none⟩) (xs.length + 1) cap)) w') :
    if Region.wanted o (yielded ops a.tmps) = true then Oper.wp P o a w K Q else G := by
  have hw : Region.wanted o (yielded ops a.tmps) = true := by simp [Region.wanted, hgd]
  rw [if_pos hw]
  obtain ⟨g, off, cap, w', hr, h2, h3, h4⟩ := run_append_I (P := P) w t o.type i ht hi hz hs hb h hB ab c y hx hl
  unfold Oper.wp execOp
  simp only [ho, resolve, invoke, builtin, Sem.run_bind, Sem.run_pure, Result.andThen_ok, List.map_toArray, List.map_cons, List.map_nil, hv, hx', hr]
  exact hk g off cap w' h2 h3 h4
end Go.Proofs.YtchnhjffpldpiaaDoor

/- parts.amount, parts.turning, parts.checkSeries -/
namespace Go.Proofs.YtchnhjffpldpiaaDoor
open Go.RowKit

theorem info_i : ((Tryd.prog).info? 3).map (fun i => (i.zero, i.size, i.bytes)) = some (some (.int .i64 0), 1, 8) := by kernel_rfl

set_option maxHeartbeats 400000 in
theorem amount_any (a b : Int) (w : World) (ha0 : -1000000 ≤ a) (ha1 : a ≤ 1000000) (hb0 : -1000000 ≤ b) (hb1 : b ≤ 1000000) :
    Calls Tryd.prog 115 #[.int .i64 a, .int .i64 b] w fun e w' => e = .returned (.int .i64 (dist a b)) ∧ w = w' := by
  by_cases h : b ≤ a
  all_goals
    go_enter Tryd.func115, Tryd.ntmps115
    go_wp2
    go_ret
    refine ⟨ret_int ?_, rfl⟩
    unfold dist
    omega

theorem code_named {P : Program} {c : Code} {Q : Exit → Act → World → Prop} {a : Act} {w : World} (h : ∀ W, W = w → c.wp P Q a W) : c.wp P Q a w := h w rfl
theorem below_drewN {B : Nat} {w W : World} (h : Below B w W) (q : Nat) : Below B w (W.drewN q) := by
  induction q with
  | zero => exact h
  | succ q ih => exact ih.drew

theorem world_gen {Q : World → Prop} {w : World} (h : ∀ W, Below w.heap.size w W → Q W) (q : Nat) : Q (w.drewN q) := h _ (below_drewN (Below.refl _ _) q)

/-- Every load is one. -/
def Loads (zs : List Int) : Prop := ∀ x ∈ zs, -1000000 ≤ x ∧ x ≤ 1000000

set_option maxRecDepth 100000 in
set_option maxHeartbeats 2000000 in
theorem turning_any (zs : List Int) (a : Option Addr) (n c : Nat) (w : World) (B : Nat) (hB : B ≤ w.heap.size) (hR : Rd encInt 1 w B a n zs) (hn : n ≤ 300) :
    Calls Tryd.prog 114 #[.slice a n c] w fun e w' => ∃ v, e = .returned v ∧ OwnI 3 w' w.heap.size v (turnP zs) ∧ Below w.heap.size w w' := by
  obtain ⟨b, off, ha, hc⟩ := hR.ex
  have HN := Lib.hid hR.len
  have HB : Aside (∀ W, Below w.heap.size w W → Below B w W) := fun W hW => hW.mono hB
  obtain ⟨i0, hi, hz0, hz1, hz2⟩ := info_parts info_i
  have I0 := Lib.hid (And.intro hi (And.intro hz0 (And.intro hz1 hz2)))
  clear hR hB hi hz0 hz1 hz2
  go_enter Tryd.func114, Tryd.ntmps114
  go_wp2
  go_loopg [2, 8] n (fun gg s2 s8 wr => ∃ kk : Nat, kk ≤ n ∧ n - kk ≤ gg ∧ s8 = .int .i64 kk ∧ Aside (Below w.heap.size w wr) ∧ Aside (OwnI 3 wr w.heap.size s2 (turnP (zs.take kk))))
  case atStart => exact ⟨0, Nat.zero_le _, by omega, rfl, Below.refl _ w, OwnI.nil⟩
  case round =>
    obtain ⟨kk, hkk, hg, rfl, BW, OW⟩ := hrel
    by_cases hlt : kk < n
    · have hltz : (kk : Int) < (n : Int) := by omega
      obtain ⟨rfl, hb⟩ := ha (by omega)
      have hlt' : kk < zs.length := by have := HN.out; omega
      have hl : wr.cell? ⟨b, off + kk, none⟩ = some (.int .i64 zs[kk]!) := by
        have := hc kk hlt 0 _ rfl
        rw [Nat.mul_one, Nat.add_zero] at this
        exact ((HB.out _ BW.out).cell (p := ⟨b, off + kk, none⟩) hb).trans this
      have T := Lib.hid (turnP_take zs kk hlt')
      have hml : (turnP (zs.take kk)).length ≤ kk := Nat.le_trans (turnP_len _) (List.length_take_le _ _)
      obtain ⟨out, hout⟩ : ∃ out, turnP (zs.take kk) = out := ⟨_, rfl⟩
      rw [hout] at OW T hml
      generalize zs[kk]! = y at hl T
      clear hc ha hout hlt'
      match out, OW, T, hml with
      | [], OW, T, hml =>
        have e2 : u2 = .slice none 0 0 := by
          rcases OW.out with h | ⟨_, _, _, _, _, _, _, h, _⟩
          · exact h.1
          · simp at h
        subst e2
        have TN : Aside (turnP (zs.take (kk + 1)) = [] ++ [y]) := by rw [show turnP (zs.take (kk + 1)) = turnStep [] y from T.out]; rfl
        go_wp2
        go_quiet (fail)
        refine world_gen (w := wr) (Q := fun W => Exit.then _ _ _ _ W) (fun W bW => ?_) _
        obtain ⟨o1, o2, o3⟩ := app_pre BW.out (Nat.le_refl _) OW.out bW y 3
        have O1 := Lib.hid o1
        have O2 := Lib.hid o2
        have O3 := Lib.hid o3
        have BW1 := Lib.hid bW
        clear o1 o2 o3 bW
        go_wp2_with (at_builtin; refine wpList_append_I _ rfl _ _ 22 rfl i0 Tryd.underlying22 I0.out.1 I0.out.2.1 I0.out.2.2.1 I0.out.2.2.2 (.slice none 0 0) [] rfl w.heap.size O1.out O2.out _ _ y rfl O3.out (by simp) ?_; intro g2 o2 cap2 w1 h1 h2 _; have H1 := Lib.hid h1; have H2 := Lib.hid h2; clear h1 h2)
        go_roundg (n - (kk + 1))
        case measure => omega
        case rel => exact ⟨kk + 1, by omega, by omega, by go_num, app_post BW.out (Nat.le_refl _) OW.out BW1.out H2.out, by rw [TN.out]; exact H1.out⟩
      | [p], OW, T, hml =>
        obtain ⟨g, o, cap, e2, _, _, _, _, hcell⟩ := OW.out.form (by simp)
        have c0 := (hcell 0 (by simp)).1
        rw [Nat.add_zero] at c0
        replace c0 : wr.cell? ⟨g, o, none⟩ = some (.int .i64 p) := c0
        replace e2 : u2 = .slice (some ⟨g, o, none⟩) 1 cap := e2
        subst e2
        clear hcell
        by_cases hp : p = y
        · subst hp
          have TN : Aside (turnP (zs.take (kk + 1)) = [p]) := by rw [show turnP (zs.take (kk + 1)) = turnStep [p] p from T.out]; exact turnStep_one_eq p
          go_wp2
          go_roundg (n - (kk + 1))
          case measure => omega
          case rel => exact ⟨kk + 1, by omega, by omega, by go_num, BW, by rw [TN.out]; exact OW.out⟩
        · have TN : Aside (turnP (zs.take (kk + 1)) = [p] ++ [y]) := by rw [show turnP (zs.take (kk + 1)) = turnStep [p] y from T.out]; exact turnStep_one p y hp
          have hpf : (p == y) = false := by simpa using hp
          clear hp
          go_wp2
          go_quiet (fail)
          refine world_gen (w := wr) (Q := fun W => Exit.then _ _ _ _ W) (fun W bW => ?_) _
          obtain ⟨o1, o2, o3⟩ := app_pre BW.out (Nat.le_refl _) OW.out bW y 3
          have O1 := Lib.hid o1
          have O2 := Lib.hid o2
          have O3 := Lib.hid o3
          have BW1 := Lib.hid bW
          clear o1 o2 o3 bW
          go_wp2_with (at_builtin; refine wpList_append_I _ rfl _ _ 22 rfl i0 Tryd.underlying22 I0.out.1 I0.out.2.1 I0.out.2.2.1 I0.out.2.2.2 (.slice (some ⟨g, o, none⟩) 1 cap) [p] rfl w.heap.size O1.out O2.out _ _ y rfl O3.out (by simp only [List.length_cons, List.length_nil] at hml ⊢; omega) ?_; intro g2 o2 cap2 w1 h1 h2 _; have H1 := Lib.hid h1; have H2 := Lib.hid h2; clear h1 h2)
          go_roundg (n - (kk + 1))
          case measure => omega
          case rel => exact ⟨kk + 1, by omega, by omega, by go_num, app_post BW.out (Nat.le_refl _) OW.out BW1.out H2.out, by rw [TN.out]; exact H1.out⟩
      | p :: p' :: rest, OW, T, hml =>
        obtain ⟨out, hout⟩ : ∃ out, p :: p' :: rest = out := ⟨_, rfl⟩
        obtain ⟨q, hq⟩ : ∃ q, out.length = q + 2 := ⟨rest.length, by rw [← hout]; rfl⟩
        rw [hout] at OW T hml
        clear hout
        obtain ⟨g, o, cap, e2, hcap, hmx, _, hgl, hcell⟩ := OW.out.form (by intro e; rw [e] at hq; simp at hq)
        have c0 := (hcell q (by omega)).1
        have c1 := (hcell (q + 1) (by omega)).1
        have f1 := (hcell (q + 1) (by omega)).2
        rw [hq] at e2 hml hcap
        subst e2
        clear hcell
        have hq300 : (q : Int) + 2 ≤ 300 := by omega
        have hq0 : (0 : Int) ≤ (q : Int) := by omega
        have T1 : Aside (out[q + 1]! = y → turnP (zs.take (kk + 1)) = out) := fun h => T.out.trans (turnStep_eq out y q hq h)
        have T2 : Aside (¬ out[q + 1]! = y → (decide (out[q]! < out[q + 1]!) = decide (out[q + 1]! < y)) → turnP (zs.take (kk + 1)) = out.set (q + 1) y) := fun h h2 => T.out.trans (turnStep_set out y q hq h (by simpa using h2))
        have T3 : Aside (¬ out[q + 1]! = y → (¬ decide (out[q]! < out[q + 1]!) = decide (out[q + 1]! < y)) → turnP (zs.take (kk + 1)) = out ++ [y]) := fun h h2 => T.out.trans (turnStep_app out y q hq h (by simpa using h2))
        have HQ := Lib.hid hq
        clear hq
        generalize out[q]! = a1 at c0 T2 T3
        generalize out[q + 1]! = a2 at c1 T1 T2 T3
        by_cases hp : a2 = y
        · subst hp
          have TN : Aside (turnP (zs.take (kk + 1)) = out) := T1.out rfl
          clear T T1 T2 T3
          go_wp2
          go_roundg (n - (kk + 1))
          case measure => omega
          case rel => exact ⟨kk + 1, by omega, by omega, by go_num, BW, by rw [TN.out]; exact OW.out⟩
        · have hpf : (a2 == y) = false := by simpa using hp
          have T2' := Lib.hid (T2.out hp)
          have T3' := Lib.hid (T3.out hp)
          clear hp T T1 T2 T3
          cases hb1 : decide (a1 < a2) <;> cases hb2 : decide (a2 < y) <;> rw [hb1, hb2] at T2' T3'
          · have TN : Aside (turnP (zs.take (kk + 1)) = out.set (q + 1) y) := T2'.out rfl
            clear T2' T3'
            go_wp2
            have hg1 : decide ((1 : Int) < (q : Int) + 2) = true := by simp; omega
            go_quiet (fail)
            refine world_gen (w := wr) (Q := fun W => Exit.then _ _ _ _ W) (fun W bW => ?_) _
            have d1 : W.cell? ⟨g, o + (q + 1), none⟩ = some (.int .i64 a2) := (bW.cell (p := ⟨g, o + (q + 1), none⟩) hgl).trans c1
            have d2 : W.frozen? ⟨g, o + (q + 1), none⟩ = false := (bW.frozen (p := ⟨g, o + (q + 1), none⟩) hgl).trans f1
            have BW1 := Lib.hid bW
            clear bW c0 c1 f1
            go_wp2
            go_roundg (n - (kk + 1))
            case measure => omega
            case rel =>
              have O2 := ((OW.out.below BW1.out).set (q + 1) (by rw [HQ.out]; omega) y)
              exact ⟨kk + 1, by omega, by omega, by go_num, (BW.out.trans (BW1.out.mono BW.out.size)).setCell (p := ⟨g, o + (q + 1), none⟩) (OW.out.own rfl).1 _, by rw [TN.out]; exact O2⟩
          · have TN : Aside (turnP (zs.take (kk + 1)) = out ++ [y]) := T3'.out (by simp)
            clear T2' T3'
            go_wp2
            have hg1 : decide ((1 : Int) < (q : Int) + 2) = true := by simp; omega
            go_quiet (fail)
            refine world_gen (w := wr) (Q := fun W => Exit.then _ _ _ _ W) (fun W bW => ?_) _
            obtain ⟨o1, o2, o3⟩ := app_pre BW.out (Nat.le_refl _) OW.out bW y 3
            have O1 := Lib.hid o1
            have O2 := Lib.hid o2
            have O3 := Lib.hid o3
            have BW1 := Lib.hid bW
            clear o1 o2 o3 bW c0 c1 f1
            go_wp2_with (at_builtin; refine wpList_append_I _ rfl _ _ 22 rfl i0 Tryd.underlying22 I0.out.1 I0.out.2.1 I0.out.2.2.1 I0.out.2.2.2 (.slice (some ⟨g, o, none⟩) (q + 2) cap) out rfl w.heap.size O1.out O2.out _ _ y rfl O3.out (by have := HQ.out; omega) ?_; rw [HQ.out]; intro g2 o2 cap2 w1 h1 h2 _; have H1 := Lib.hid h1; have H2 := Lib.hid h2; clear h1 h2)
            go_roundg (n - (kk + 1))
            case measure => omega
            case rel => exact ⟨kk + 1, by omega, by omega, by go_num, app_post BW.out (Nat.le_refl _) OW.out BW1.out H2.out, by rw [TN.out]; exact H1.out⟩
          · have TN : Aside (turnP (zs.take (kk + 1)) = out ++ [y]) := T3'.out (by simp)
            clear T2' T3'
            go_wp2
            have hg1 : decide ((1 : Int) < (q : Int) + 2) = true := by simp; omega
            go_quiet (fail)
            refine world_gen (w := wr) (Q := fun W => Exit.then _ _ _ _ W) (fun W bW => ?_) _
            obtain ⟨o1, o2, o3⟩ := app_pre BW.out (Nat.le_refl _) OW.out bW y 3
            have O1 := Lib.hid o1
            have O2 := Lib.hid o2
            have O3 := Lib.hid o3
            have BW1 := Lib.hid bW
            clear o1 o2 o3 bW c0 c1 f1
            go_wp2_with (at_builtin; refine wpList_append_I _ rfl _ _ 22 rfl i0 Tryd.underlying22 I0.out.1 I0.out.2.1 I0.out.2.2.1 I0.out.2.2.2 (.slice (some ⟨g, o, none⟩) (q + 2) cap) out rfl w.heap.size O1.out O2.out _ _ y rfl O3.out (by have := HQ.out; omega) ?_; rw [HQ.out]; intro g2 o2 cap2 w1 h1 h2 _; have H1 := Lib.hid h1; have H2 := Lib.hid h2; clear h1 h2)
            go_roundg (n - (kk + 1))
            case measure => omega
            case rel => exact ⟨kk + 1, by omega, by omega, by go_num, app_post BW.out (Nat.le_refl _) OW.out BW1.out H2.out, by rw [TN.out]; exact H1.out⟩
          · have TN : Aside (turnP (zs.take (kk + 1)) = out.set (q + 1) y) := T2'.out rfl
            clear T2' T3'
            go_wp2
            have hg1 : decide ((1 : Int) < (q : Int) + 2) = true := by simp; omega
            go_quiet (fail)
            refine world_gen (w := wr) (Q := fun W => Exit.then _ _ _ _ W) (fun W bW => ?_) _
            have d1 : W.cell? ⟨g, o + (q + 1), none⟩ = some (.int .i64 a2) := (bW.cell (p := ⟨g, o + (q + 1), none⟩) hgl).trans c1
            have d2 : W.frozen? ⟨g, o + (q + 1), none⟩ = false := (bW.frozen (p := ⟨g, o + (q + 1), none⟩) hgl).trans f1
            have BW1 := Lib.hid bW
            clear bW c0 c1 f1
            go_wp2
            go_roundg (n - (kk + 1))
            case measure => omega
            case rel =>
              have O2 := ((OW.out.below BW1.out).set (q + 1) (by rw [HQ.out]; omega) y)
              exact ⟨kk + 1, by omega, by omega, by go_num, (BW.out.trans (BW1.out.mono BW.out.size)).setCell (p := ⟨g, o + (q + 1), none⟩) (OW.out.own rfl).1 _, by rw [TN.out]; exact O2⟩
    · have hltz : ¬ (kk : Int) < (n : Int) := by omega
      have : kk = n := by omega
      subst this
      go_wp2
      go_ret
      refine ⟨_, rfl, ?_, BW.out⟩
      have h := OW.out
      rwa [HN.out, List.take_length] at h
end Go.Proofs.YtchnhjffpldpiaaDoor

/- parts.checkSeries -/
namespace Go.Proofs.YtchnhjffpldpiaaDoor
open Go.RowKit

def badLoad (x : Int) : Bool := !inB x (-1000000) 1000000
/-- The error of a series. -/
def seriesE (zs : List Int) : Int := if 300 < zs.length then 2 else if zs.any badLoad then 1 else 0

theorem loads_of {zs : List Int} (h : seriesE zs = 0) : zs.length ≤ 300 ∧ Loads zs := by
  unfold seriesE at h
  split at h
  · omega
  · split at h
    · omega
    · rename_i h1 h2
      refine ⟨by omega, fun x hx => ?_⟩
      have : badLoad x = false := by
        simp only [List.any_eq_true, not_exists, not_and, Bool.not_eq_true] at h2
        exact h2 x hx
      unfold badLoad at this
      simpa [inB] using this

set_option maxHeartbeats 400000 in
theorem badLoad_any (x : Int) (w : World) :
    Calls Tryd.prog 112 (#[val_int x] ++ #[]) w fun e w' => e = .returned (.bool (badLoad x)) ∧ Below w.heap.size w w' := by
  simp only [val_int, Array.append_empty]
  go_enter Tryd.func112, Tryd.ntmps112
  go_wp2_with (go_at_call 66; refine (within_any _ _ _ _).mono ?_; rintro e w' ⟨rfl, rfl⟩)
  all_goals
    go_ret
    exact ⟨ret_bool (by simp [badLoad]), Below.refl _ _⟩

set_option maxHeartbeats 400000 in
theorem series_any (zs : List Int) (a : Option Addr) (n c : Nat) (w : World) (B : Nat) (hB : B ≤ w.heap.size) (hR : Rd encInt 1 w B a n zs) :
    Calls Tryd.prog 62 #[.slice a n c] w fun e w' => e = .returned (.int .i64 (seriesE zs)) ∧ Below w.heap.size w w' := by
  have hn := hR.len
  have hbig := hR.big
  have eg := enters_of (P := Tryd.prog) Tryd.func112 (by kernel_rfl) rfl
  have C := Lib.hid (contains_int zs badLoad 112 #[] eg a n c w B hB hR (fun j _ W _ => badLoad_any _ W))
  unfold seriesE
  rw [← hn]
  clear eg hR hn hB
  by_cases h : 300 < (n : Int)
  · have h' : 300 < n := by omega
    rw [if_pos h']
    clear h'
    go_enter Tryd.func62, Tryd.ntmps62
    go_wp2
    go_ret
    exact ⟨rfl, Below.refl _ _⟩
  · have h' : ¬ 300 < n := by omega
    rw [if_neg h']
    clear h'
    generalize zs.any badLoad = v at C
    cases v
    all_goals
      go_enter Tryd.func62, Tryd.ntmps62
      go_wp2_with (go_at_call 88; refine C.out.mono ?_; rintro e w' ⟨rfl, hb⟩)
      go_ret
      exact ⟨rfl, hb⟩

set_option maxHeartbeats 400000 in
theorem count_any (v : Value) (w : World) (a : Option Addr) (n c : Nat) (hv : v = .slice a n c) :
    Calls Tryd.prog 63 #[v] w fun e w' => e = .returned (.func (.func 113) #[] #[.pointer (some ⟨w.heap.size, 0, none⟩)]) ∧ w' = w.alloc (.cells #[.slice a n c] 22) := by
  subst hv
  go_enter Tryd.func63, Tryd.ntmps63
  go_wp2
  go_ret
  exact ⟨rfl, rfl⟩
end Go.Proofs.YtchnhjffpldpiaaDoor

/- What PartsCounted reckons, in plain lists; two slices of integers that grow side by side. No walk. -/
namespace Go.Proofs.YtchnhjffpldpiaaDoor
open Go Go.RowKit

def gre (l : List (Int × Int)) : Int := l.foldl (fun g x => max g x.1) 0
theorem gre_snoc (l : List (Int × Int)) (x : Int × Int) : gre (l ++ [x]) = max (gre l) x.1 := by unfold gre; rw [List.foldl_append]; rfl
theorem gre_ge : ∀ (l : List (Int × Int)) (g : Int), (g ≤ l.foldl (fun g x => max g x.1) g ∧ ∀ x ∈ l, x.1 ≤ l.foldl (fun g x => max g x.1) g) := by
  intro l
  induction l with
  | nil => intro g; exact ⟨Int.le_refl _, fun _ h => by cases h⟩
  | cons y l ih =>
    intro g
    rw [List.foldl_cons]
    obtain ⟨h1, h2⟩ := ih (max g y.1)
    refine ⟨Int.le_trans (by omega) h1, fun x hx => ?_⟩
    rcases List.mem_cons.1 hx with e | e
    · subst e; exact Int.le_trans (by omega) h1
    · exact h2 x e
theorem gre_le (D : Int) : ∀ (l : List (Int × Int)) (g : Int), g ≤ D → (∀ x ∈ l, x.1 ≤ D) → l.foldl (fun g x => max g x.1) g ≤ D := by
  intro l
  induction l with
  | nil => intro g h _; exact h
  | cons y l ih =>
    intro g h hx
    rw [List.foldl_cons]
    refine ih _ ?_ fun x h => hx x (List.mem_cons_of_mem _ h)
    have := hx y (by simp)
    omega
theorem gre_eq {l : List (Int × Int)} {D : Int} (h1 : ∀ x ∈ l, 0 ≤ x.1 ∧ x.1 ≤ D) (h0 : 0 ≤ D) (h2 : D = 0 ∨ ∃ x ∈ l, x.1 = D) : gre l = D := by
  have a := gre_le D l 0 h0 fun x hx => (h1 x hx).2
  have b := gre_ge l 0
  unfold gre
  rcases h2 with h2 | ⟨x, hx, e⟩
  · have := b.1; omega
  · have := b.2 x hx; omega

def lowP (zs : List Int) : Nat → Int
  | 0 => zs[0]!
  | k + 1 => min (lowP zs k) zs[k]!
def highP (zs : List Int) : Nat → Int
  | 0 => zs[0]!
  | k + 1 => max (highP zs k) zs[k]!
theorem lowP_zero (zs : List Int) : lowP zs 0 = zs[0]! := rfl
theorem highP_zero (zs : List Int) : highP zs 0 = zs[0]! := rfl
theorem lowP_succ (zs : List Int) (k : Nat) : lowP zs (k + 1) = min (lowP zs k) zs[k]! := rfl
theorem highP_succ (zs : List Int) (k : Nat) : highP zs (k + 1) = max (highP zs k) zs[k]! := rfl
theorem low_mem (zs : List Int) (h : 0 < zs.length) : ∀ k, k ≤ zs.length → lowP zs k ∈ zs := by
  intro k
  induction k with
  | zero => intro _; exact get_mem zs 0 h
  | succ k ih =>
    intro hk
    rw [lowP_succ]
    by_cases e : zs[k]! < lowP zs k
    · rw [show min (lowP zs k) zs[k]! = zs[k]! by omega]; exact get_mem zs k (by omega)
    · rw [show min (lowP zs k) zs[k]! = lowP zs k by omega]; exact ih (by omega)
theorem high_mem (zs : List Int) (h : 0 < zs.length) : ∀ k, k ≤ zs.length → highP zs k ∈ zs := by
  intro k
  induction k with
  | zero => intro _; exact get_mem zs 0 h
  | succ k ih =>
    intro hk
    rw [highP_succ]
    by_cases e : zs[k]! > highP zs k
    · rw [show max (highP zs k) zs[k]! = zs[k]! by omega]; exact get_mem zs k (by omega)
    · rw [show max (highP zs k) zs[k]! = highP zs k by omega]; exact ih (by omega)
theorem low_le (zs : List Int) : ∀ k i, i < k → lowP zs k ≤ zs[i]! := by
  intro k
  induction k with
  | zero => intro i h; omega
  | succ k ih =>
    intro i h
    rw [lowP_succ]
    by_cases e : i = k
    · subst e; omega
    · have := ih i (by omega)
      omega
theorem high_ge (zs : List Int) : ∀ k i, i < k → zs[i]! ≤ highP zs k := by
  intro k
  induction k with
  | zero => intro i h; omega
  | succ k ih =>
    intro i h
    rw [highP_succ]
    by_cases e : i = k
    · subst e; omega
    · have := ih i (by omega)
      omega
theorem mem_get {zs : List Int} {x : Int} (h : x ∈ zs) : ∃ i, i < zs.length ∧ zs[i]! = x := by
  obtain ⟨i, hi, e⟩ := List.getElem_of_mem h
  exact ⟨i, hi, by rw [getElem!_pos zs i hi, e]⟩
theorem hull_all (zs : List Int) (x : Int) (h : x ∈ zs) : lowP zs zs.length ≤ x ∧ x ≤ highP zs zs.length := by
  obtain ⟨i, hi, rfl⟩ := mem_get h
  exact ⟨low_le zs _ i hi, high_ge zs _ i hi⟩
theorem gre_cyc (zs : List Int) (h : 0 < zs.length) : gre (cycP zs) = highP zs zs.length - lowP zs zs.length := by
  have hl := low_mem zs h _ (Nat.le_refl _)
  have hh := high_mem zs h _ (Nat.le_refl _)
  have hlh := (hull_all zs _ hh).1
  obtain ⟨h1, h2⟩ := cyc_great zs _ _ hl hh (hull_all zs)
  refine gre_eq h1 (by omega) ?_
  rcases h2 with h2 | h2
  · exact .inl (by omega)
  · exact .inr h2

theorem take_snoc {α : Type} [Inhabited α] (l : List α) (k : Nat) (h : k < l.length) : l.take (k + 1) = l.take k ++ [l[k]!] := by
  rw [getElem!_pos l k h, List.take_add_one, List.getElem?_eq_getElem h]; rfl
theorem hsum_take (cs : List (Int × Int)) (k : Nat) (h : k < cs.length) : hsum (cs.take (k + 1)) = hsum (cs.take k) + (cs[k]!).2 := by
  rw [take_snoc cs k h, hsum_append, hsum_one]
theorem gre_take (cs : List (Int × Int)) (k : Nat) (h : k < cs.length) : gre (cs.take (k + 1)) = max (gre (cs.take k)) (cs[k]!).1 := by
  rw [take_snoc cs k h, gre_snoc]
theorem get_mem2 (cs : List (Int × Int)) (k : Nat) (h : k < cs.length) : cs[k]! ∈ cs := by
  rw [getElem!_pos cs k h]; exact List.getElem_mem h
theorem hsum_bound (cs : List (Int × Int)) (h : Halves cs) : ∀ k, k ≤ cs.length → 0 ≤ hsum (cs.take k) ∧ hsum (cs.take k) ≤ 2 * (k : Int) := by
  intro k
  induction k with
  | zero => intro _; exact ⟨Int.le_refl _, Int.le_refl _⟩
  | succ k ih =>
    intro hk
    have := ih (by omega)
    rw [hsum_take cs k (by omega)]
    rcases h _ (get_mem2 cs k (by omega)) with e | e <;> omega

theorem loads_len {zs : List Int} (hl : zs.length ≤ 300) (h : Loads zs) : seriesE zs = 0 := by
  unfold seriesE
  rw [if_neg (by omega), if_neg]
  intro hb
  obtain ⟨x, hx, hb⟩ := List.any_eq_true.1 hb
  have := h x hx
  have hb2 : inB x (-1000000) 1000000 = true := by simp [inB]; omega
  unfold badLoad at hb
  rw [hb2] at hb
  exact absurd hb (by decide)
theorem minus_ok {zs : List Int} (h : seriesE zs = 0) : seriesE (zs.map fun a => -a) = 0 := by
  obtain ⟨h1, h2⟩ := loads_of h
  refine loads_len (by simpa using h1) fun x hx => ?_
  obtain ⟨y, hy, rfl⟩ := List.mem_map.1 hx
  have := h2 y hy
  omega
theorem twice_ok {zs : List Int} (h : seriesE zs = 0) (hn : zs.length < 300) (at_ : Int) : seriesE (dupUp zs at_ zs.length) = 0 := by
  obtain ⟨h1, h2⟩ := loads_of h
  exact loads_len (by have := dup_len' zs at_ zs.length; omega) fun x hx => h2 x (dup_mem zs at_ x _ (Nat.le_refl _) hx)
theorem added_ok {zs : List Int} (h : seriesE zs = 0) (m : Int) (hlo : -1000000 ≤ lowP zs zs.length + m) (hhi : highP zs zs.length + m ≤ 1000000) : seriesE (zs.map fun a => a + m) = 0 := by
  obtain ⟨h1, h2⟩ := loads_of h
  refine loads_len (by simpa using h1) fun x hx => ?_
  obtain ⟨y, hy, rfl⟩ := List.mem_map.1 hx
  have := hull_all zs y hy
  omega

theorem map_take_snoc (g : Int → Int) (zs : List Int) (k : Nat) (h : k < zs.length) : (zs.take (k + 1)).map g = (zs.take k).map g ++ [g zs[k]!] := by
  rw [take_snoc zs k h, List.map_append]; rfl
theorem dup_no {zs : List Int} {at_ : Int} {k : Nat} (h : ¬ (k : Int) = at_) : dupUp zs at_ (k + 1) = dupUp zs at_ k ++ [zs[k]!] := by rw [dupUp_succ, if_neg h]
theorem dup_yes {zs : List Int} {at_ : Int} {k : Nat} (h : (k : Int) = at_) : dupUp zs at_ (k + 1) = dupUp zs at_ k ++ [zs[k]!] ++ [zs[k]!] := by rw [dupUp_succ, if_pos h, List.append_assoc]; rfl

theorem OwnI.rd {E : TypeId} {w : World} {B : Nat} {v : Value} {xs : List Int} (h : OwnI E w B v xs) (hl : xs.length ≤ 1000000) : ∃ a c, v = .slice a xs.length c ∧ Rd encInt 1 w w.heap.size a xs.length xs := by
  by_cases e : xs = []
  · obtain ⟨a, c, e2, _⟩ := h.view
    exact ⟨a, c, e2, rfl, by omega, 0, 0, fun h => by rw [e] at h; simp at h, fun j hj => by rw [e] at hj; simp at hj⟩
  · obtain ⟨g, off, cap, e2, _, _, _, hg, hc⟩ := h.form e
    refine ⟨_, cap, e2, rfl, by omega, g, off, fun _ => ⟨rfl, hg⟩, fun j hj i u hu => ?_⟩
    cases i with
    | zero => injection hu with hu; rw [← hu, Nat.mul_one, Nat.add_zero]; exact (hc j hj).1
    | succ i => cases hu

/-- Two slices of integers, each in a block of its own. -/
structure Two (E : TypeId) (w : World) (B : Nat) (v1 v2 : Value) (xs ys : List Int) : Prop where
  fst : OwnI E w B v1 xs
  snd : OwnI E w B v2 ys
  apart : ∀ g, v1.ownBlock = some g → v2.ownBlock ≠ some g
variable {E : TypeId} {w wr W w1 : World} {B : Nat} {v1 v2 v1' : Value} {xs ys xs' : List Int}
theorem Two.nil : Two E w B (.slice none 0 0) (.slice none 0 0) [] [] := ⟨OwnI.nil, OwnI.nil, fun _ h => by cases h⟩
theorem Two.swap (h : Two E w B v1 v2 xs ys) : Two E w B v2 v1 ys xs := ⟨h.snd, h.fst, fun g h1 h2 => h.apart g h2 h1⟩
theorem Two.below (h : Two E w B v1 v2 xs ys) (hb : Below w.heap.size w W) : Two E W B v1 v2 xs ys := ⟨h.fst.below hb, h.snd.below hb, h.apart⟩
/-- One of them grows. -/
theorem Two.grow (h : Two E w B v1 v2 xs ys) {o : Obj} (G : (w.alloc o).grownBy w1 v1.ownBlock) {g off n cap : Nat} (ho : OwnI E w1 B (.slice (some ⟨g, off, none⟩) n cap) xs') (hg : v1.ownBlock = some g ∨ (w.alloc o).heap.size ≤ g) :
    Two E w1 B (.slice (some ⟨g, off, none⟩) n cap) v2 xs' ys := by
  refine ⟨ho, (h.snd.below ((Below.refl _ _).alloc (Nat.le_refl _) o)).kept fun k hk => ?_, fun k h1 h2 => ?_⟩
  · have h3 := (h.snd.own hk).2
    refine G.block k (by rw [World.size_alloc]; omega) fun h1 => h.apart k h1.symm hk
  · have e : k = g := (Option.some.inj h1).symm
    subst e
    rcases hg with hg | hg
    · exact h.apart k hg h2
    · have := (h.snd.own h2).2
      rw [World.size_alloc] at hg
      omega
theorem Two.keep (h : Two E w B v1 v2 xs ys) {w0 : World} {B0 : Nat} (hb : Below B0 w0 w) (hB : B0 ≤ B) (hB0 : B0 ≤ w0.heap.size) {o : Obj} (G : (w.alloc o).grownBy w1 v1.ownBlock) : Below B0 w0 w1 := by
  have h1 := hb.size
  refine (hb.alloc (by omega) o).grown G (by rw [World.size_alloc]; omega) fun k hk => Nat.le_trans hB (h.fst.own hk).1
end Go.Proofs.YtchnhjffpldpiaaDoor
