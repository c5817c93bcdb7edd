/- The counting of loads as plain functions on lists. No program. -/
namespace Go.Proofs.YtchnhjffpldpiaaDoor

/-- One load more for the turning points. -/
def turnStep (out : List Int) (n : Int) : List Int :=
  if 0 < out.length ∧ out[out.length - 1]! = n then out
  else if 1 < out.length ∧ (out[out.length - 2]! < out[out.length - 1]! ↔ out[out.length - 1]! < n) then out.set (out.length - 1) n
  else out ++ [n]
def turnP (zs : List Int) : List Int := zs.foldl turnStep []

theorem turnP_nil : turnP [] = [] := rfl
theorem turnP_snoc (zs : List Int) (x : Int) : turnP (zs ++ [x]) = turnStep (turnP zs) x := by simp [turnP]
theorem turnP_take (zs : List Int) (k : Nat) (h : k < zs.length) : turnP (zs.take (k + 1)) = turnStep (turnP (zs.take k)) zs[k]! := by
  rw [List.take_succ_eq_append_getElem h, turnP_snoc, getElem!_pos zs k h]
theorem turnStep_len (out : List Int) (n : Int) : (turnStep out n).length ≤ out.length + 1 := by
  unfold turnStep
  split
  · omega
  · split
    · simp
    · simp
theorem turnStep_ne (out : List Int) (n : Int) : turnStep out n ≠ [] := by
  unfold turnStep
  split
  · rename_i h; intro e; rw [e] at h; simp at h
  · split
    · rename_i h; intro e; have := congrArg List.length e; simp at this; rw [this] at h; simp at h
    · simp
theorem turnStep_one_eq (p : Int) : turnStep [p] p = [p] := by
  unfold turnStep; rw [if_pos ⟨by simp, rfl⟩]
theorem turnStep_one (p y : Int) (h : ¬ p = y) : turnStep [p] y = [p] ++ [y] := by
  unfold turnStep; rw [if_neg (fun e => h e.2), if_neg (fun e => by simp at e)]
theorem turnStep_eq (out : List Int) (y : Int) (q : Nat) (hq : out.length = q + 2) (h : out[q + 1]! = y) : turnStep out y = out := by
  unfold turnStep
  rw [hq, show q + 2 - 1 = q + 1 from rfl, if_pos ⟨by omega, h⟩]
theorem turnStep_set (out : List Int) (y : Int) (q : Nat) (hq : out.length = q + 2) (h : ¬ out[q + 1]! = y) (h2 : out[q]! < out[q + 1]! ↔ out[q + 1]! < y) : turnStep out y = out.set (q + 1) y := by
  unfold turnStep
  rw [hq, show q + 2 - 1 = q + 1 from rfl, show q + 2 - 2 = q from rfl, if_neg (fun e => h e.2), if_pos ⟨by omega, h2⟩]
theorem turnStep_app (out : List Int) (y : Int) (q : Nat) (hq : out.length = q + 2) (h : ¬ out[q + 1]! = y) (h2 : ¬ (out[q]! < out[q + 1]! ↔ out[q + 1]! < y)) : turnStep out y = out ++ [y] := by
  unfold turnStep
  rw [hq, show q + 2 - 1 = q + 1 from rfl, show q + 2 - 2 = q from rfl, if_neg (fun e => h e.2), if_neg (fun e => h2 e.2)]
theorem turnP_len (zs : List Int) : (turnP zs).length ≤ zs.length := by
  unfold turnP
  have : ∀ (zs out : List Int), (zs.foldl turnStep out).length ≤ out.length + zs.length := by
    intro zs
    induction zs with
    | nil => intro out; simp
    | cons z zs ih => intro out; have := ih (turnStep out z); have := turnStep_len out z; simp only [List.foldl_cons, List.length_cons]; omega
  have := this zs []
  simpa using this

/-- The amount of a difference. -/
def dist (a b : Int) : Int := max (a - b) (b - a)

/-- What one turning point more yields, and the pile behind it. -/
def shrink : Nat → List Int → List (Int × Int) → List Int × List (Int × Int)
  | 0, pile, out => (pile, out)
  | f + 1, pile, out =>
    let n := pile.length
    if 3 ≤ n then
      if dist pile[n - 1]! pile[n - 2]! < dist pile[n - 2]! pile[n - 3]! then (pile, out)
      else if n = 3 then shrink f (pile.drop 1) (out ++ [(dist pile[n - 2]! pile[n - 3]!, 1)])
      else shrink f (pile.take (n - 3) ++ [pile[n - 1]!]) (out ++ [(dist pile[n - 2]! pile[n - 3]!, 2)])
    else (pile, out)
def pileStep (s : List Int × List (Int × Int)) (p : Int) : List Int × List (Int × Int) := shrink (s.1.length + 1) (s.1 ++ [p]) s.2
def pileP (ts : List Int) : List Int × List (Int × Int) := ts.foldl pileStep ([], [])
/-- What is left on the pile, from the i-th on. -/
def restP (pile : List Int) : List (Int × Int) := (List.range (pile.length - 1)).map fun i => (dist pile[i + 1]! pile[i]!, 1)
def cycP (zs : List Int) : List (Int × Int) := (pileP (turnP zs)).2 ++ restP (pileP (turnP zs)).1

theorem shrink_pre : ∀ (f : Nat) (pile : List Int) (out : List (Int × Int)), ∃ more, (shrink f pile out).2 = out ++ more := by
  intro f
  induction f with
  | zero => intro pile out; exact ⟨[], by simp [shrink]⟩
  | succ f ih =>
    intro pile out
    unfold shrink
    simp only
    split
    · split
      · exact ⟨[], by simp⟩
      · split
        · obtain ⟨m, h⟩ := ih (pile.drop 1) (out ++ [(dist pile[pile.length - 2]! pile[pile.length - 3]!, 1)])
          exact ⟨_, by rw [h, List.append_assoc]⟩
        · obtain ⟨m, h⟩ := ih (pile.take (pile.length - 3) ++ [pile[pile.length - 1]!]) (out ++ [(dist pile[pile.length - 2]! pile[pile.length - 3]!, 2)])
          exact ⟨_, by rw [h, List.append_assoc]⟩
    · exact ⟨[], by simp⟩
theorem shrink_len : ∀ (f : Nat) (pile : List Int) (out : List (Int × Int)), pile.length ≤ f → (shrink f pile out).1.length ≤ pile.length := by
  intro f
  induction f with
  | zero => intro pile out h; simp [shrink]
  | succ f ih =>
    intro pile out h
    unfold shrink
    simp only
    split
    · split
      · exact Nat.le_refl _
      · split
        · have := ih (pile.drop 1) (out ++ [(dist pile[pile.length - 2]! pile[pile.length - 3]!, 1)]) (by simp; omega)
          simp at this ⊢; omega
        · have := ih (pile.take (pile.length - 3) ++ [pile[pile.length - 1]!]) (out ++ [(dist pile[pile.length - 2]! pile[pile.length - 3]!, 2)]) (by simp; omega)
          simp at this ⊢; omega
    · exact Nat.le_refl _

theorem pileP_snoc (ts : List Int) (p : Int) : pileP (ts ++ [p]) = pileStep (pileP ts) p := by simp [pileP]
theorem pileP_take (ts : List Int) (k : Nat) (h : k < ts.length) : pileP (ts.take (k + 1)) = pileStep (pileP (ts.take k)) ts[k]! := by
  rw [List.take_succ_eq_append_getElem h, pileP_snoc, getElem!_pos ts k h]
theorem pileStep_len (s : List Int × List (Int × Int)) (p : Int) : (pileStep s p).1.length ≤ s.1.length + 1 := by
  have := shrink_len (s.1.length + 1) (s.1 ++ [p]) s.2 (by simp)
  simpa [pileStep] using this
theorem pileP_len (ts : List Int) : (pileP ts).1.length ≤ ts.length := by
  have : ∀ (ts : List Int) (s : List Int × List (Int × Int)), (ts.foldl pileStep s).1.length ≤ s.1.length + ts.length := by
    intro ts
    induction ts with
    | nil => intro s; simp
    | cons t ts ih => intro s; have := ih (pileStep s t); have := pileStep_len s t; simp only [List.foldl_cons, List.length_cons]; omega
  have := this ts ([], [])
  simpa [pileP] using this
theorem pileStep_pre (s : List Int × List (Int × Int)) (p : Int) : s.2 <+: (pileStep s p).2 := by
  obtain ⟨m, h⟩ := shrink_pre (s.1.length + 1) (s.1 ++ [p]) s.2
  exact ⟨m, by rw [pileStep, h]⟩
theorem pile_pre (ts : List Int) (s : List Int × List (Int × Int)) : s.2 <+: (ts.foldl pileStep s).2 := by
  induction ts generalizing s with
  | nil => exact List.prefix_refl _
  | cons t ts ih => exact (pileStep_pre s t).trans (ih _)
/-- What has been yielded behind k turning points begins all. -/
theorem pileP_pre (zs : List Int) (k : Nat) : (pileP ((turnP zs).take k)).2 <+: cycP zs := by
  refine List.IsPrefix.trans ?_ (List.prefix_append _ _)
  have h := pile_pre ((turnP zs).drop k) (pileP ((turnP zs).take k))
  have e : pileP (turnP zs) = ((turnP zs).drop k).foldl pileStep (pileP ((turnP zs).take k)) := by
    unfold pileP
    rw [← List.foldl_append, List.take_append_drop]
  rw [e]; exact h
theorem shrink_end (f : Nat) (pile : List Int) (out : List (Int × Int)) (h : pile.length < 3) : shrink f pile out = (pile, out) := by
  cases f with
  | zero => rfl
  | succ f => unfold shrink; simp only; rw [if_neg (by omega)]
theorem shrink_stop (f q : Nat) (pile : List Int) (out : List (Int × Int)) (hq : pile.length = q + 3) (h : dist pile[q + 2]! pile[q + 1]! < dist pile[q + 1]! pile[q]!) : shrink f pile out = (pile, out) := by
  cases f with
  | zero => rfl
  | succ f =>
    unfold shrink
    simp only
    rw [hq, if_pos (by omega), show q + 3 - 1 = q + 2 from rfl, show q + 3 - 2 = q + 1 from rfl, show q + 3 - 3 = q from rfl, if_pos h]
theorem shrink_succ (f : Nat) (pile : List Int) (out : List (Int × Int)) : shrink (f + 1) pile out =
    if 3 ≤ pile.length then
      if dist pile[pile.length - 1]! pile[pile.length - 2]! < dist pile[pile.length - 2]! pile[pile.length - 3]! then (pile, out)
      else if pile.length = 3 then shrink f (pile.drop 1) (out ++ [(dist pile[pile.length - 2]! pile[pile.length - 3]!, 1)])
      else shrink f (pile.take (pile.length - 3) ++ [pile[pile.length - 1]!]) (out ++ [(dist pile[pile.length - 2]! pile[pile.length - 3]!, 2)])
    else (pile, out) := rfl
theorem shrink_one (f : Nat) (pile : List Int) (out : List (Int × Int)) (hq : pile.length = 3) (h : ¬ dist pile[2]! pile[1]! < dist pile[1]! pile[0]!) : shrink (f + 1) pile out = shrink f (pile.drop 1) (out ++ [(dist pile[1]! pile[0]!, 1)]) := by
  rw [shrink_succ, hq, if_pos (by omega), show 3 - 1 = 2 from rfl, show 3 - 2 = 1 from rfl, show 3 - 3 = 0 from rfl, if_neg h, if_pos rfl]
theorem shrink_two (f q : Nat) (pile : List Int) (out : List (Int × Int)) (hq : pile.length = q + 4) (h : ¬ dist pile[q + 3]! pile[q + 2]! < dist pile[q + 2]! pile[q + 1]!) :
    shrink (f + 1) pile out = shrink f (pile.take (q + 1) ++ [pile[q + 3]!]) (out ++ [(dist pile[q + 2]! pile[q + 1]!, 2)]) := by
  rw [shrink_succ, hq, if_pos (by omega), show q + 4 - 1 = q + 3 from rfl, show q + 4 - 2 = q + 2 from rfl, show q + 4 - 3 = q + 1 from rfl, if_neg h, if_neg (by omega)]

theorem turnStep_mem (out : List Int) (n x : Int) (h : x ∈ turnStep out n) : x ∈ out ∨ x = n := by
  unfold turnStep at h
  split at h
  · exact .inl h
  · split at h
    · exact List.mem_or_eq_of_mem_set h
    · simpa using h
theorem turnP_mem (zs : List Int) (x : Int) (h : x ∈ turnP zs) : x ∈ zs := by
  have : ∀ (zs out : List Int), x ∈ zs.foldl turnStep out → x ∈ out ∨ x ∈ zs := by
    intro zs
    induction zs with
    | nil => intro out h; exact .inl h
    | cons z zs ih =>
      intro out h
      rcases ih _ h with h | h
      · rcases turnStep_mem _ _ _ h with h | h
        · exact .inl h
        · exact .inr (by rw [h]; exact List.mem_cons_self)
      · exact .inr (List.mem_cons_of_mem _ h)
  rcases this zs [] h with h | h
  · cases h
  · exact h
theorem get_mem (l : List Int) (i : Nat) (h : i < l.length) : l[i]! ∈ l := by
  rw [getElem!_pos l i h]; exact List.getElem_mem h
theorem shrink_mem (x : Int) : ∀ (f : Nat) (pile : List Int) (out : List (Int × Int)), x ∈ (shrink f pile out).1 → x ∈ pile := by
  intro f
  induction f with
  | zero => intro pile out h; exact h
  | succ f ih =>
    intro pile out h
    rw [shrink_succ] at h
    split at h
    · split at h
      · exact h
      · split at h
        · exact List.mem_of_mem_drop (ih _ _ h)
        · rcases List.mem_append.1 (ih _ _ h) with h | h
          · exact List.mem_of_mem_take h
          · have : x = pile[pile.length - 1]! := by simpa using h
            rw [this]; exact get_mem _ _ (by omega)
    · exact h
theorem pileP_mem (ts : List Int) (x : Int) (h : x ∈ (pileP ts).1) : x ∈ ts := by
  have : ∀ (ts : List Int) (s : List Int × List (Int × Int)), x ∈ (ts.foldl pileStep s).1 → x ∈ s.1 ∨ x ∈ ts := by
    intro ts
    induction ts with
    | nil => intro s h; exact .inl h
    | cons t ts ih =>
      intro s h
      rcases ih _ h with h | h
      · have := shrink_mem x _ _ _ h
        rcases List.mem_append.1 this with h | h
        · exact .inl h
        · exact .inr (by rw [show x = t by simpa using h]; exact List.mem_cons_self)
      · exact .inr (List.mem_cons_of_mem _ h)
  rcases this ts ([], []) h with h | h
  · cases h
  · exact h

/-- What the first j places of the rest yield. -/
def restUp (pile : List Int) (j : Nat) : List (Int × Int) := (List.range (j - 1)).map fun i => (dist pile[i + 1]! pile[i]!, 1)
theorem restUp_all (pile : List Int) : restUp pile pile.length = restP pile := rfl
theorem restUp_zero (pile : List Int) : restUp pile 0 = [] := rfl
theorem restUp_one (pile : List Int) : restUp pile 1 = [] := rfl
theorem restUp_succ (pile : List Int) (i : Nat) : restUp pile (i + 1 + 1) = restUp pile (i + 1) ++ [(dist pile[i + 1]! pile[i]!, 1)] := by
  simp [restUp, List.range_succ]
theorem restUp_pre (pile : List Int) (i : Nat) (h : i + 1 < pile.length) : restUp pile (i + 1) ++ [(dist pile[i + 1]! pile[i]!, 1)] <+: restP pile := by
  rw [← restUp_succ]
  refine ⟨(restP pile).drop (i + 1), ?_⟩
  have : restUp pile (i + 1 + 1) = (restP pile).take (i + 1) := by
    unfold restUp restP
    rw [← List.map_take, List.take_range, show i + 1 + 1 - 1 = i + 1 from rfl, Nat.min_eq_left (by omega)]
  rw [this, List.take_append_drop]

theorem shrink_sum : ∀ (f : Nat) (pile : List Int) (out : List (Int × Int)), (shrink f pile out).1.length + (shrink f pile out).2.length ≤ pile.length + out.length := by
  intro f
  induction f with
  | zero => intro pile out; exact Nat.le_refl _
  | succ f ih =>
    intro pile out
    rw [shrink_succ]
    split
    · split
      · exact Nat.le_refl _
      · split
        · refine Nat.le_trans (ih _ _) ?_
          simp; omega
        · refine Nat.le_trans (ih _ _) ?_
          simp; omega
    · exact Nat.le_refl _
theorem pileP_sum (ts : List Int) : (pileP ts).1.length + (pileP ts).2.length ≤ ts.length := by
  have : ∀ (ts : List Int) (s : List Int × List (Int × Int)), (ts.foldl pileStep s).1.length + (ts.foldl pileStep s).2.length ≤ s.1.length + s.2.length + ts.length := by
    intro ts
    induction ts with
    | nil => intro s; exact Nat.le_refl _
    | cons t ts ih =>
      intro s
      have h1 := ih (pileStep s t)
      have h2 := shrink_sum (s.1.length + 1) (s.1 ++ [t]) s.2
      simp only [List.foldl_cons, List.length_cons]
      have h3 : (pileStep s t).1.length + (pileStep s t).2.length ≤ s.1.length + 1 + s.2.length := by
        refine Nat.le_trans h2 ?_
        simp
      omega
  have := this ts ([], [])
  simpa [pileP] using this
theorem cycP_len (zs : List Int) : (cycP zs).length ≤ zs.length := by
  have h1 := pileP_sum (turnP zs)
  have h2 := turnP_len zs
  unfold cycP restP
  simp
  omega
end Go.Proofs.YtchnhjffpldpiaaDoor
