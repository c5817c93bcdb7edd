/- Plans of flights: the program's search and the reference's answer alike; the reference's list is the best. Plain. -/
import Derived.Test.YtchnhjffpldpiaaDoorMA
namespace Go.Proofs.YtchnhjffpldpiaaDoor

def chgUp' (l : List Int) : Nat → Int
  | 0 => 0
  | k + 1 => chgUp' l k + if 0 < k ∧ ¬ l[k]! = l[k - 1]! then 1 else 0
/-- How many changes a list of parts has. -/
def chg (l : List Int) : Int := chgUp' l l.length
theorem chgUp'_zero (l : List Int) : chgUp' l 0 = 0 := rfl
theorem chgUp'_succ (l : List Int) (k : Nat) : chgUp' l (k + 1) = chgUp' l k + if 0 < k ∧ ¬ l[k]! = l[k - 1]! then 1 else 0 := rfl
theorem chgUp'_bd (l : List Int) : ∀ k : Nat, 0 ≤ chgUp' l k ∧ chgUp' l k ≤ (k : Int) := by
  intro k
  induction k with
  | zero => rw [chgUp'_zero]; omega
  | succ k ih => rw [chgUp'_succ]; split <;> omega
theorem chg_bd (l : List Int) : 0 ≤ chg l ∧ chg l ≤ (l.length : Int) := chgUp'_bd l l.length
theorem get_l (l m : List Int) (i : Nat) (h : i < l.length) : (l ++ m)[i]! = l[i]! := by
  rw [getElem!_pos (l ++ m) i (by rw [List.length_append]; omega), getElem!_pos l i h, List.getElem_append_left h]
theorem get_e (l : List Int) (x : Int) : (l ++ [x])[l.length]! = x := by
  rw [getElem!_pos (l ++ [x]) l.length (by rw [List.length_append, List.length_singleton]; omega)]
  simp
theorem chgUp'_app (l m : List Int) : ∀ k, k ≤ l.length → chgUp' (l ++ m) k = chgUp' l k := by
  intro k
  induction k with
  | zero => intro _; rfl
  | succ k ih =>
    intro hk
    rw [chgUp'_succ, chgUp'_succ, ih (by omega), get_l l m k (by omega), get_l l m (k - 1) (by omega)]
def moreP (now : List Int) (i ch : Int) : Int := if 0 < now.length ∧ ¬ now[now.length - 1]! = i then ch + 1 else ch
theorem chg_snoc (l : List Int) (x : Int) : chg (l ++ [x]) = moreP l x (chg l) := by
  unfold chg moreP
  rw [List.length_append, List.length_singleton, chgUp'_succ, chgUp'_app l [x] _ (Nat.le_refl _), get_e]
  by_cases h : 0 < l.length
  · rw [get_l l [x] (l.length - 1) (by omega)]
    by_cases e : l[l.length - 1]! = x
    · rw [if_neg (fun h2 => h2.2 e.symm), if_neg (fun h2 => h2.2 e)]; omega
    · rw [if_pos ⟨h, fun h2 => e h2.symm⟩, if_pos ⟨h, e⟩]
  · rw [if_neg (fun h2 => h h2.1), if_neg (fun h2 => h h2.1)]; omega
theorem chg_nil : chg [] = 0 := rfl
theorem chg_app (l m : List Int) : chg l ≤ chg (l ++ m) := by
  induction m generalizing l with
  | nil => rw [List.append_nil]; exact Int.le_refl _
  | cons x m ih =>
    have h1 := ih (l ++ [x])
    rw [List.append_assoc] at h1
    have h2 : chg l ≤ chg (l ++ [x]) := by rw [chg_snoc]; unfold moreP; split <;> omega
    exact Int.le_trans h2 h1

/-! The reference's search. -/
def mergeP (best r : Option (List Int)) : Option (List Int) :=
  match r with
  | none => best
  | some l => match best with
    | none => some l
    | some b => if chg l < chg b then some l else some b
def plansUp (rec : List Int → List Int → Option (List Int)) (f : Int) (begun left : List Int) : Nat → Option (List Int)
  | 0 => none
  | i + 1 => mergeP (plansUp rec f begun left i) (if left[i]! < f then none else rec (begun ++ [(i : Int)]) (left.set i (left[i]! - f)))
def plansR : List Int → List Int → List Int → Option (List Int)
  | [], begun, _ => some begun
  | f :: fs, begun, left => plansUp (plansR fs) f begun left left.length
theorem plansUp_zero (rec : List Int → List Int → Option (List Int)) (f : Int) (begun left : List Int) : plansUp rec f begun left 0 = none := rfl
theorem plansUp_succ (rec : List Int → List Int → Option (List Int)) (f : Int) (begun left : List Int) (i : Nat) : plansUp rec f begun left (i + 1) = mergeP (plansUp rec f begun left i) (if left[i]! < f then none else rec (begun ++ [(i : Int)]) (left.set i (left[i]! - f))) := rfl
theorem plansR_nil (begun left : List Int) : plansR [] begun left = some begun := rfl
theorem plansR_cons (f : Int) (fs begun left : List Int) : plansR (f :: fs) begun left = plansUp (plansR fs) f begun left left.length := rfl

/-! The program's search. -/
def cutP (st : Option (List Int × Int)) (ch : Int) : Bool := match st with | none => false | some (_, c) => decide (c ≤ ch)
def lookUp (rec : List Int → List Int → Int → Option (List Int × Int) → Option (List Int × Int)) (f : Int) (spares now : List Int) (ch : Int) (st : Option (List Int × Int)) : Nat → Option (List Int × Int)
  | 0 => st
  | i + 1 => if spares[i]! < f then lookUp rec f spares now ch st i else rec (spares.set i (spares[i]! - f)) (now ++ [(i : Int)]) (moreP now i ch) (lookUp rec f spares now ch st i)
def lookP : List Int → List Int → List Int → Int → Option (List Int × Int) → Option (List Int × Int)
  | [], _, now, ch, st => if cutP st ch then st else some (now, ch)
  | f :: fs, spares, now, ch, st => if cutP st ch then st else lookUp (lookP fs) f spares now ch st spares.length
theorem lookUp_zero (rec : List Int → List Int → Int → Option (List Int × Int) → Option (List Int × Int)) (f : Int) (spares now : List Int) (ch : Int) (st : Option (List Int × Int)) : lookUp rec f spares now ch st 0 = st := rfl
theorem lookUp_succ (rec : List Int → List Int → Int → Option (List Int × Int) → Option (List Int × Int)) (f : Int) (spares now : List Int) (ch : Int) (st : Option (List Int × Int)) (i : Nat) :
    lookUp rec f spares now ch st (i + 1) = if spares[i]! < f then lookUp rec f spares now ch st i else rec (spares.set i (spares[i]! - f)) (now ++ [(i : Int)]) (moreP now i ch) (lookUp rec f spares now ch st i) := rfl
theorem lookP_nil (spares now : List Int) (ch : Int) (st : Option (List Int × Int)) : lookP [] spares now ch st = if cutP st ch then st else some (now, ch) := rfl
theorem lookP_cons (f : Int) (fs spares now : List Int) (ch : Int) (st : Option (List Int × Int)) : lookP (f :: fs) spares now ch st = if cutP st ch then st else lookUp (lookP fs) f spares now ch st spares.length := rfl

/-! They agree. -/
def combP (st : Option (List Int × Int)) (r : Option (List Int)) : Option (List Int × Int) :=
  match r with
  | none => st
  | some l => match st with
    | none => some (l, chg l)
    | some (b, c) => if chg l < c then some (l, chg l) else some (b, c)
def OkSt (st : Option (List Int × Int)) : Prop := ∀ b c, st = some (b, c) → c = chg b
theorem combP_ok {st : Option (List Int × Int)} (h : OkSt st) (r : Option (List Int)) : OkSt (combP st r) := by
  intro b c e
  unfold combP at e
  cases r with
  | none => exact h b c e
  | some l =>
    match st, h, e with
    | none, _, e => simp only [Option.some.injEq, Prod.mk.injEq] at e; rw [← e.1, e.2]
    | some (b', c'), h, e =>
      simp only at e
      split at e
      · simp only [Option.some.injEq, Prod.mk.injEq] at e; rw [← e.1, e.2]
      · simp only [Option.some.injEq, Prod.mk.injEq] at e
        rw [← e.1, ← e.2]; exact h b' c' rfl
theorem comb_merge {st : Option (List Int × Int)} (h : OkSt st) (r1 r2 : Option (List Int)) : combP (combP st r1) r2 = combP st (mergeP r1 r2) := by
  cases r2 with
  | none => rfl
  | some l2 =>
    cases r1 with
    | none => rfl
    | some l1 =>
      match st, h with
      | none, _ =>
        show combP (some (l1, chg l1)) (some l2) = combP none (if chg l2 < chg l1 then some l2 else some l1)
        show (if chg l2 < chg l1 then some (l2, chg l2) else some (l1, chg l1)) = _
        split <;> rfl
      | some (b, c), h =>
        have hc := h b c rfl
        show combP (if chg l1 < c then some (l1, chg l1) else some (b, c)) (some l2) = combP (some (b, c)) (if chg l2 < chg l1 then some l2 else some l1)
        by_cases h1 : chg l1 < c <;> by_cases h2 : chg l2 < chg l1
        · rw [if_pos h1, if_pos h2]
          show (if chg l2 < chg l1 then some (l2, chg l2) else some (l1, chg l1)) = if chg l2 < c then some (l2, chg l2) else some (b, c)
          rw [if_pos h2, if_pos (by omega)]
        · rw [if_pos h1, if_neg h2]
          show (if chg l2 < chg l1 then some (l2, chg l2) else some (l1, chg l1)) = if chg l1 < c then some (l1, chg l1) else some (b, c)
          rw [if_neg h2, if_pos h1]
        · rw [if_neg h1, if_pos h2]
        · rw [if_neg h1, if_neg h2]
          show (if chg l2 < c then some (l2, chg l2) else some (b, c)) = if chg l1 < c then some (l1, chg l1) else some (b, c)
          rw [if_neg h1, if_neg (by omega)]
theorem mergeP_or (a b : Option (List Int)) (l : List Int) (h : mergeP a b = some l) : a = some l ∨ b = some l := by
  unfold mergeP at h
  cases b with
  | none => exact .inl h
  | some m =>
    cases a with
    | none => exact .inr h
    | some n => simp only at h; split at h <;> simp_all
theorem plansUp_mem (rec : List Int → List Int → Option (List Int)) (f : Int) (begun left l : List Int) : ∀ n, plansUp rec f begun left n = some l → ∃ i, i < n ∧ ¬ left[i]! < f ∧ rec (begun ++ [(i : Int)]) (left.set i (left[i]! - f)) = some l := by
  intro n
  induction n with
  | zero => intro h; cases h
  | succ n ih =>
    intro h
    rw [plansUp_succ] at h
    rcases mergeP_or _ _ _ h with h | h
    · obtain ⟨i, h1, h2⟩ := ih h; exact ⟨i, by omega, h2⟩
    · split at h
      · cases h
      · rename_i h2; exact ⟨n, by omega, h2, h⟩
theorem plansR_ext : ∀ (fs begun left l : List Int), plansR fs begun left = some l → ∃ t, l = begun ++ t ∧ t.length = fs.length := by
  intro fs
  induction fs with
  | nil => intro begun left l h; rw [plansR_nil] at h; cases h; exact ⟨[], by simp, rfl⟩
  | cons f fs ih =>
    intro begun left l h
    rw [plansR_cons] at h
    obtain ⟨i, _, _, h2⟩ := plansUp_mem _ _ _ _ _ _ h
    obtain ⟨t, rfl, ht⟩ := ih _ _ _ h2
    exact ⟨(i : Int) :: t, by simp, by simp [ht]⟩
theorem comb_cut {st : Option (List Int × Int)} {ch : Int} (h : cutP st ch = true) {r : Option (List Int)} (hr : ∀ l, r = some l → ch ≤ chg l) : combP st r = st := by
  cases r with
  | none => rfl
  | some l =>
    match st, h with
    | none, h => cases h
    | some (b, c), h =>
      have h1 : c ≤ ch := by simpa [cutP] using h
      have h2 := hr l rfl
      show (if chg l < c then some (l, chg l) else some (b, c)) = _
      rw [if_neg (by omega)]
theorem look_eq : ∀ (fs spares now : List Int) (st : Option (List Int × Int)), OkSt st → lookP fs spares now (chg now) st = combP st (plansR fs now spares) := by
  intro fs
  induction fs with
  | nil =>
    intro spares now st h
    rw [lookP_nil, plansR_nil]
    cases hc : cutP st (chg now) with
    | true => rw [if_pos rfl, comb_cut hc (fun l e => by cases e; exact Int.le_refl _)]
    | false =>
      rw [if_neg (by simp)]
      match st, hc with
      | none, _ => rfl
      | some (b, c), hc =>
        have h1 : ¬ c ≤ chg now := by simpa [cutP] using hc
        show _ = if chg now < c then some (now, chg now) else some (b, c)
        rw [if_pos (by omega)]
  | cons f fs ih =>
    intro spares now st h
    rw [lookP_cons]
    have up : ∀ n, lookUp (lookP fs) f spares now (chg now) st n = combP st (plansUp (plansR fs) f now spares n) := by
      intro n
      induction n with
      | zero => rfl
      | succ n ihn =>
        rw [lookUp_succ, plansUp_succ, ← comb_merge h, ← ihn]
        split
        · rfl
        · rw [← chg_snoc, ih _ _ _ (by rw [ihn]; exact combP_ok h _)]
    cases hc : cutP st (chg now) with
    | true =>
      rw [if_pos rfl, comb_cut hc]
      intro l hl
      obtain ⟨t, rfl, _⟩ := plansR_ext _ _ _ _ hl
      exact chg_app now t
    | false => rw [if_neg (by simp), up, plansR_cons]

/-! What is answered. -/
def badSpare (n : Int) : Bool := !inB n 0 100000
def badFlight (n : Int) : Bool := !inB n 1 100000
def planE (spares flights : List Int) : Int :=
  if !inB (spares.length : Int) 1 6 then 1 else if 8 < flights.length then 1 else if spares.any badSpare then 1 else if flights.any badFlight then 1 else 0
/-- The list, its changes, the error. -/
def planA (spares flights : List Int) : List Int × Int × Int :=
  if planE spares flights = 0 then
    match plansR flights [] spares with
    | none => ([], 0, 3)
    | some l => (l, chg l, 0)
  else ([], 0, 1)
end Go.Proofs.YtchnhjffpldpiaaDoor
