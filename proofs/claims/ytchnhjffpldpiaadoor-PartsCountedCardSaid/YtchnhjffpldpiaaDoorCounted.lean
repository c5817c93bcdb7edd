/- The counting of loads: what PartsCounted says of it. No program. -/
import Derived.Test.YtchnhjffpldpiaaDoorLoad
namespace Go.Proofs.YtchnhjffpldpiaaDoor

theorem g_last (A : List Int) (p : Int) : (A ++ [p])[(A ++ [p]).length - 1]! = p := by
  rw [List.length_append, List.length_singleton, Nat.add_sub_cancel, getElem!_pos _ _ (by simp)]
  simp
theorem g_prev (A : List Int) (p : Int) : (A ++ [p])[(A ++ [p]).length - 2]! = if A = [] then p else A[A.length - 1]! := by
  rw [List.length_append, List.length_singleton]
  by_cases h : A = []
  · subst h; simp
  · have : 0 < A.length := List.length_pos_iff.2 h
    rw [if_neg h, show A.length + 1 - 2 = A.length - 1 by omega, getElem!_pos _ _ (by simp; omega), getElem!_pos A _ (by omega), List.getElem_append_left (by omega)]
theorem turnStep_snoc (A : List Int) (p x : Int) : turnStep (A ++ [p]) x = if p = x then A ++ [p] else if A ≠ [] ∧ (A[A.length - 1]! < p ↔ p < x) then A ++ [x] else A ++ [p] ++ [x] := by
  unfold turnStep
  rw [g_last, g_prev]
  by_cases h1 : p = x
  · rw [if_pos ⟨by simp, h1⟩, if_pos h1]
  · rw [if_neg (fun e => h1 e.2), if_neg h1]
    by_cases hA : A = []
    · subst hA; simp
    · have : 0 < A.length := List.length_pos_iff.2 hA
      rw [if_neg hA]
      by_cases h2 : A[A.length - 1]! < p ↔ p < x
      · rw [if_pos ⟨by simp; omega, h2⟩, if_pos ⟨hA, h2⟩]
        rw [List.length_append, List.length_singleton, Nat.add_sub_cancel, List.set_append_right _ _ (Nat.le_refl _)]
        simp
      · rw [if_neg (fun e => h2 e.2), if_neg (fun e => h2 e.2)]
theorem turnStep_empty (x : Int) : turnStep [] x = [x] := rfl
theorem turnStep_end (out : List Int) (x : Int) : ∃ A, turnStep out x = A ++ [x] := by
  rcases List.eq_nil_or_concat out with h | ⟨A, p, h⟩
  · subst h; exact ⟨[], rfl⟩
  · rw [List.concat_eq_append] at h
    subst h
    rw [turnStep_snoc]
    split
    · rename_i e; subst e; exact ⟨A, rfl⟩
    · split
      · exact ⟨A, rfl⟩
      · exact ⟨A ++ [p], rfl⟩
theorem turnStep_twice (out : List Int) (x : Int) : turnStep (turnStep out x) x = turnStep out x := by
  obtain ⟨A, h⟩ := turnStep_end out x
  rw [h, turnStep_snoc, if_pos rfl]

/-! ### A load repeated -/
def dupUp (zs : List Int) (at_ : Int) : Nat → List Int
  | 0 => []
  | k + 1 => dupUp zs at_ k ++ (if (k : Int) = at_ then [zs[k]!, zs[k]!] else [zs[k]!])
theorem dupUp_succ (zs : List Int) (at_ : Int) (k : Nat) : dupUp zs at_ (k + 1) = dupUp zs at_ k ++ (if (k : Int) = at_ then [zs[k]!, zs[k]!] else [zs[k]!]) := rfl
theorem dup_turn (zs : List Int) (at_ : Int) (k : Nat) (hk : k ≤ zs.length) : turnP (dupUp zs at_ k) = turnP (zs.take k) := by
  induction k with
  | zero => rfl
  | succ k ih =>
    rw [turnP_take zs k hk, ← ih (by omega)]
    rw [dupUp_succ]
    split
    · rw [show [zs[k]!, zs[k]!] = [zs[k]!] ++ [zs[k]!] from rfl, ← List.append_assoc, turnP_snoc, turnP_snoc, turnStep_twice]
    · rw [turnP_snoc]
theorem dup_cyc (zs : List Int) (at_ : Int) : cycP (dupUp zs at_ zs.length) = cycP zs := by
  unfold cycP
  rw [dup_turn zs at_ _ (Nat.le_refl _), List.take_length]
theorem dup_mem (zs : List Int) (at_ x : Int) (k : Nat) (hk : k ≤ zs.length) (h : x ∈ dupUp zs at_ k) : x ∈ zs := by
  induction k with
  | zero => cases h
  | succ k ih =>
    unfold dupUp at h
    rcases List.mem_append.1 h with h | h
    · exact ih (by omega) h
    · split at h
      · have : x = zs[k]! := by simpa using h
        rw [this]; exact get_mem _ _ hk
      · have : x = zs[k]! := by simpa using h
        rw [this]; exact get_mem _ _ hk
theorem dup_len (zs : List Int) (at_ : Int) (k : Nat) : (dupUp zs at_ k).length ≤ k + (if at_ < (k : Int) then 1 else 0) := by
  induction k with
  | zero => simp [dupUp]
  | succ k ih =>
    unfold dupUp
    rw [List.length_append]
    split
    · rename_i h
      rw [if_neg (by omega)] at ih
      rw [if_pos (by omega)]
      simp; omega
    · split at ih
      · rw [if_pos (by omega)]; simp; omega
      · split <;> simp <;> omega
theorem dup_len' (zs : List Int) (at_ : Int) (k : Nat) : (dupUp zs at_ k).length ≤ k + 1 := by
  have := dup_len zs at_ k
  split at this <;> omega

/-! ### On stacks: the last one first -/
def stepR : List Int → Int → List Int
  | [], x => [x]
  | [p], x => if p = x then [p] else [x, p]
  | p :: q :: r, x => if p = x then p :: q :: r else if q < p ↔ p < x then x :: q :: r else x :: p :: q :: r
theorem stepR_one (p x : Int) : stepR [p] x = if p = x then [p] else [x, p] := rfl
theorem stepR_two (p q x : Int) (r : List Int) : stepR (p :: q :: r) x = if p = x then p :: q :: r else if q < p ↔ p < x then x :: q :: r else x :: p :: q :: r := rfl
theorem turnStep_rev (s : List Int) (x : Int) : turnStep s.reverse x = (stepR s x).reverse := by
  match s with
  | [] => rfl
  | [p] =>
    show turnStep ([] ++ [p]) x = _
    rw [turnStep_snoc, stepR_one]
    by_cases h : p = x
    · rw [if_pos h, if_pos h]; rfl
    · rw [if_neg h, if_neg h, if_neg (fun h => h.1 rfl)]; rfl
  | p :: q :: r =>
    have e : (p :: q :: r).reverse = (r.reverse ++ [q]) ++ [p] := by simp
    rw [e, turnStep_snoc, g_last, stepR_two]
    by_cases h0 : p = x
    · rw [if_pos h0, if_pos h0]; simp
    · rw [if_neg h0, if_neg h0]
      by_cases h : q < p ↔ p < x
      · rw [if_pos ⟨by simp, h⟩, if_pos h]; simp
      · rw [if_neg (fun h' => h h'.2), if_neg h]; simp
def turnR (zs : List Int) : List Int := zs.foldl stepR []
theorem turnP_rev (zs : List Int) : turnP zs = (turnR zs).reverse := by
  have : ∀ (zs s : List Int), zs.foldl turnStep s.reverse = (zs.foldl stepR s).reverse := by
    intro zs
    induction zs with
    | nil => intro s; rfl
    | cons z zs ih => intro s; simp only [List.foldl_cons]; rw [turnStep_rev, ih]
  exact this zs []

def shrinkR : Nat → List Int → List (Int × Int) → List Int × List (Int × Int)
  | 0, s, out => (s, out)
  | f + 1, c :: b :: a :: r, out =>
    if dist c b < dist b a then (c :: b :: a :: r, out)
    else if r = [] then shrinkR f [c, b] (out ++ [(dist b a, 1)])
    else shrinkR f (c :: r) (out ++ [(dist b a, 2)])
  | _ + 1, s, out => (s, out)

theorem shrinkR_succ (f : Nat) (c b a : Int) (r : List Int) (out : List (Int × Int)) : shrinkR (f + 1) (c :: b :: a :: r) out =
    if dist c b < dist b a then (c :: b :: a :: r, out) else if r = [] then shrinkR f [c, b] (out ++ [(dist b a, 1)]) else shrinkR f (c :: r) (out ++ [(dist b a, 2)]) := rfl
theorem rev3 (c b a : Int) (r : List Int) : (c :: b :: a :: r).reverse[r.length + 2]! = c ∧ (c :: b :: a :: r).reverse[r.length + 1]! = b ∧ (c :: b :: a :: r).reverse[r.length]! = a := by
  refine ⟨?_, ?_, ?_⟩
  all_goals
    rw [getElem!_pos _ _ (by simp)]
    simp [List.getElem_append_right]
theorem shrink_rev : ∀ (f : Nat) (s : List Int) (out : List (Int × Int)), shrink f s.reverse out = ((shrinkR f s out).1.reverse, (shrinkR f s out).2) := by
  intro f
  induction f with
  | zero => intro s out; rfl
  | succ f ih =>
    intro s out
    match s with
    | [] => rfl
    | [_] => rfl
    | [_, _] => rfl
    | c :: b :: a :: r =>
      obtain ⟨e1, e2, e3⟩ := rev3 c b a r
      have hl : (c :: b :: a :: r).reverse.length = r.length + 3 := by simp
      rw [shrink_succ, hl, if_pos (by omega), show r.length + 3 - 1 = r.length + 2 from rfl, show r.length + 3 - 2 = r.length + 1 from rfl, show r.length + 3 - 3 = r.length from rfl, e1, e2, e3]
      rw [shrinkR_succ]
      by_cases hd : dist c b < dist b a
      · rw [if_pos hd, if_pos hd]
      · rw [if_neg hd, if_neg hd]
        by_cases hr : r = []
        · subst hr
          rw [if_pos (show ([] : List Int).length + 3 = 3 from rfl), if_pos rfl, show (c :: b :: a :: []).reverse.drop 1 = [c, b].reverse from rfl, ih]
        · rw [if_neg (by have := List.length_pos_iff.2 hr; omega), if_neg hr]
          rw [show (c :: b :: a :: r).reverse.take r.length ++ [c] = (c :: r).reverse by
            rw [show (c :: b :: a :: r).reverse = r.reverse ++ [a, b, c] by simp, List.take_append_of_le_length (by simp), List.take_of_length_le (by simp)]
            simp, ih]
def pileR (ts : List Int) : List Int × List (Int × Int) := ts.foldl (fun s p => shrinkR (s.1.length + 1) (p :: s.1) s.2) ([], [])
theorem pileP_rev (ts : List Int) : pileP ts = ((pileR ts).1.reverse, (pileR ts).2) := by
  have : ∀ (ts : List Int) (s : List Int) (out : List (Int × Int)), ts.foldl pileStep (s.reverse, out) = ((ts.foldl (fun s p => shrinkR (s.1.length + 1) (p :: s.1) s.2) (s, out)).1.reverse, (ts.foldl (fun s p => shrinkR (s.1.length + 1) (p :: s.1) s.2) (s, out)).2) := by
    intro ts
    induction ts with
    | nil => intro s out; rfl
    | cons t ts ih =>
      intro s out
      simp only [List.foldl_cons]
      have e : pileStep (s.reverse, out) t = ((shrinkR (s.length + 1) (t :: s) out).1.reverse, (shrinkR (s.length + 1) (t :: s) out).2) := by
        unfold pileStep
        simp only [List.length_reverse]
        rw [← shrink_rev, List.reverse_cons]
      rw [e, ih]
  exact this ts [] []

/-! ### The turning points turn -/
def Alt : List Int → Prop
  | [] => True
  | [_] => True
  | [b, a] => a ≠ b
  | c :: b :: a :: r => b ≠ c ∧ ¬ (a < b ↔ b < c) ∧ Alt (b :: a :: r)
theorem Alt.step {s : List Int} (h : Alt s) (x : Int) : Alt (stepR s x) := by
  match s, h with
  | [], _ => trivial
  | [p], _ =>
    rw [stepR_one]
    by_cases e : p = x
    · rw [if_pos e]; trivial
    · rw [if_neg e]; exact e
  | [p, q], h =>
    rw [stepR_two]
    have h : q ≠ p := h
    by_cases e : p = x
    · rw [if_pos e]; exact h
    · rw [if_neg e]
      by_cases t : q < p ↔ p < x
      · rw [if_pos t]; show q ≠ x; omega
      · rw [if_neg t]; exact ⟨e, t, h⟩
  | p :: q :: z :: r, h =>
    rw [stepR_two]
    obtain ⟨h1, h2, h3⟩ := h
    by_cases e : p = x
    · rw [if_pos e]; exact ⟨h1, h2, h3⟩
    · rw [if_neg e]
      by_cases t : q < p ↔ p < x
      · rw [if_pos t]; exact ⟨by omega, by omega, h3⟩
      · rw [if_neg t]; exact ⟨e, t, h1, h2, h3⟩
theorem Alt.tail {c : Int} {s : List Int} (h : Alt (c :: s)) : Alt s := by
  match s, h with
  | [], _ => trivial
  | [_], _ => trivial
  | _ :: _ :: _, h => exact h.2.2
theorem Alt.ne {b a : Int} {r : List Int} (h : Alt (b :: a :: r)) : a ≠ b := by
  match r, h with
  | [], h => exact h
  | _ :: _, h => exact h.1
theorem fold_inv {α β : Type} (P : β → Prop) (f : β → α → β) (hf : ∀ s x, P s → P (f s x)) : ∀ (zs : List α) (s : β), P s → P (zs.foldl f s) := by
  intro zs
  induction zs with
  | nil => intro s h; exact h
  | cons z zs ih => intro s h; exact ih _ (hf s z h)
theorem alt_turn (zs : List Int) : Alt (turnR zs) := fold_inv Alt stepR (fun _ x h => h.step x) zs [] trivial

/-! ### All signs changed, or a number added -/
theorem neg_step (s : List Int) (x : Int) (h : Alt s) : stepR (s.map fun a => -a) (-x) = (stepR s x).map fun a => -a := by
  match s, h with
  | [], _ => rfl
  | [p], _ =>
    show stepR [-p] (-x) = _
    rw [stepR_one, stepR_one]
    by_cases e : p = x
    · rw [if_pos (by omega), if_pos e]; rfl
    · rw [if_neg (by omega), if_neg e]; rfl
  | p :: q :: r, h =>
    have := h.ne
    show stepR (-p :: -q :: r.map fun a => -a) (-x) = _
    rw [stepR_two, stepR_two]
    by_cases e : p = x
    · rw [if_pos (by omega), if_pos e]; rfl
    · rw [if_neg (by omega), if_neg e]
      by_cases t : q < p ↔ p < x
      · rw [if_pos (by omega), if_pos t]; rfl
      · rw [if_neg (by omega), if_neg t]; rfl
theorem neg_turn (zs : List Int) : turnR (zs.map fun a => -a) = (turnR zs).map fun a => -a := by
  have : ∀ (zs s : List Int), Alt s → (zs.map fun a => -a).foldl stepR (s.map fun a => -a) = (zs.foldl stepR s).map fun a => -a := by
    intro zs
    induction zs with
    | nil => intro s _; rfl
    | cons z zs ih => intro s h; simp only [List.map_cons, List.foldl_cons]; rw [neg_step s z h, ih _ (h.step z)]
  exact this zs [] trivial
theorem dist_neg (a b : Int) : dist (-a) (-b) = dist a b := by unfold dist; omega
theorem dist_add (a b m : Int) : dist (a + m) (b + m) = dist a b := by unfold dist; omega
theorem map_shrink (g : Int → Int) (hg : ∀ a b, dist (g a) (g b) = dist a b) : ∀ (f : Nat) (s : List Int) (out : List (Int × Int)), shrinkR f (s.map g) out = ((shrinkR f s out).1.map g, (shrinkR f s out).2) := by
  intro f
  induction f with
  | zero => intro s out; rfl
  | succ f ih =>
    intro s out
    match s with
    | [] => rfl
    | [_] => rfl
    | [_, _] => rfl
    | c :: b :: a :: r =>
      show shrinkR (f + 1) (g c :: g b :: g a :: r.map g) out = _
      rw [shrinkR_succ, shrinkR_succ, hg, hg]
      by_cases hd : dist c b < dist b a
      · rw [if_pos hd, if_pos hd]; rfl
      · rw [if_neg hd, if_neg hd]
        by_cases hr : r = []
        · subst hr
          rw [if_pos (show List.map g [] = [] from rfl), if_pos rfl]; exact ih [c, b] _
        · rw [if_neg (by simpa using hr), if_neg hr]; exact ih (c :: r) _
theorem map_pile (g : Int → Int) (hg : ∀ a b, dist (g a) (g b) = dist a b) (ts : List Int) : pileR (ts.map g) = ((pileR ts).1.map g, (pileR ts).2) := by
  have : ∀ (ts s : List Int) (out : List (Int × Int)), (ts.map g).foldl (fun s p => shrinkR (s.1.length + 1) (p :: s.1) s.2) (s.map g, out) = ((ts.foldl (fun s p => shrinkR (s.1.length + 1) (p :: s.1) s.2) (s, out)).1.map g, (ts.foldl (fun s p => shrinkR (s.1.length + 1) (p :: s.1) s.2) (s, out)).2) := by
    intro ts
    induction ts with
    | nil => intro s out; rfl
    | cons t ts ih =>
      intro s out
      simp only [List.map_cons, List.foldl_cons, List.length_map]
      rw [show g t :: s.map g = (t :: s).map g from rfl, map_shrink g hg, ih]
  exact this ts [] []
theorem map_rest (g : Int → Int) (hg : ∀ a b, dist (g a) (g b) = dist a b) (pile : List Int) : restP (pile.map g) = restP pile := by
  unfold restP
  rw [List.length_map]
  refine List.map_congr_left fun i hi => ?_
  have hi := List.mem_range.1 hi
  rw [getElem!_pos (pile.map g) (i + 1) (by rw [List.length_map]; omega), getElem!_pos (pile.map g) i (by rw [List.length_map]; omega), getElem!_pos pile (i + 1) (by omega), getElem!_pos pile i (by omega), List.getElem_map, List.getElem_map, hg]
theorem map_cyc (g : Int → Int) (hg : ∀ a b, dist (g a) (g b) = dist a b) (zs : List Int) (ht : turnP (zs.map g) = (turnP zs).map g) : cycP (zs.map g) = cycP zs := by
  unfold cycP
  rw [ht, pileP_rev, pileP_rev, map_pile g hg]
  simp only
  rw [← List.map_reverse, map_rest g hg]
theorem neg_cyc (zs : List Int) : cycP (zs.map fun a => -a) = cycP zs :=
  map_cyc _ (fun a b => dist_neg a b) zs (by rw [turnP_rev, turnP_rev, neg_turn, List.map_reverse])
theorem add_step (s : List Int) (x m : Int) : stepR (s.map fun a => a + m) (x + m) = (stepR s x).map fun a => a + m := by
  match s with
  | [] => rfl
  | [p] =>
    show stepR [p + m] (x + m) = _
    rw [stepR_one, stepR_one]
    by_cases e : p = x
    · rw [if_pos (by omega), if_pos e]; rfl
    · rw [if_neg (by omega), if_neg e]; rfl
  | p :: q :: r =>
    show stepR ((p + m) :: (q + m) :: r.map fun a => a + m) (x + m) = _
    rw [stepR_two, stepR_two]
    by_cases e : p = x
    · rw [if_pos (by omega), if_pos e]; rfl
    · rw [if_neg (by omega), if_neg e]
      by_cases t : q < p ↔ p < x
      · rw [if_pos (by omega), if_pos t]; rfl
      · rw [if_neg (by omega), if_neg t]; rfl
theorem add_cyc (zs : List Int) (m : Int) : cycP (zs.map fun a => a + m) = cycP zs := by
  have h : ∀ (zs s : List Int), (zs.map fun a => a + m).foldl stepR (s.map fun a => a + m) = (zs.foldl stepR s).map fun a => a + m := by
    intro zs
    induction zs with
    | nil => intro s; rfl
    | cons z zs ih => intro s; simp only [List.map_cons, List.foldl_cons]; rw [add_step, ih]
  have h2 : turnR (zs.map fun a => a + m) = (turnR zs).map fun a => a + m := h zs []
  exact map_cyc _ (fun a b => dist_add a b m) zs (by rw [turnP_rev, turnP_rev, h2, List.map_reverse])

/-! ### The halves -/
def hsum (l : List (Int × Int)) : Int := (l.map Prod.snd).foldr (· + ·) 0
theorem hsum_nil : hsum [] = 0 := rfl
theorem hsum_cons (x : Int × Int) (l : List (Int × Int)) : hsum (x :: l) = x.2 + hsum l := rfl
theorem hsum_append (l l' : List (Int × Int)) : hsum (l ++ l') = hsum l + hsum l' := by
  induction l with
  | nil => rw [List.nil_append, hsum_nil, Int.zero_add]
  | cons x l ih => rw [List.cons_append, hsum_cons, hsum_cons, ih, Int.add_assoc]
theorem hsum_one (x : Int × Int) : hsum [x] = x.2 := by rw [hsum_cons, hsum_nil, Int.add_zero]
def Halves (l : List (Int × Int)) : Prop := ∀ x ∈ l, x.2 = 1 ∨ x.2 = 2
theorem shrink_h : ∀ (f : Nat) (s : List Int) (out : List (Int × Int)), hsum (shrinkR f s out).2 + ((shrinkR f s out).1.length : Int) = hsum out + (s.length : Int) ∧ (Halves out → Halves (shrinkR f s out).2) ∧ (s ≠ [] → (shrinkR f s out).1 ≠ []) := by
  intro f
  induction f with
  | zero => intro s out; exact ⟨rfl, id, id⟩
  | succ f ih =>
    intro s out
    match s with
    | [] => exact ⟨rfl, id, id⟩
    | [_] => exact ⟨rfl, id, id⟩
    | [_, _] => exact ⟨rfl, id, id⟩
    | c :: b :: a :: r =>
      rw [shrinkR_succ]
      by_cases hd : dist c b < dist b a
      · rw [if_pos hd]; exact ⟨rfl, id, id⟩
      · rw [if_neg hd]
        by_cases hr : r = []
        · subst hr
          rw [if_pos rfl]
          obtain ⟨h1, h2, h3⟩ := ih [c, b] (out ++ [(dist b a, 1)])
          refine ⟨?_, fun h => h2 ?_, fun _ => h3 (by simp)⟩
          · rw [h1, hsum_append, hsum_one]; simp; omega
          · intro x hx
            rcases List.mem_append.1 hx with h' | h'
            · exact h x h'
            · rw [show x = _ by simpa using h']; exact .inl rfl
        · rw [if_neg hr]
          obtain ⟨h1, h2, h3⟩ := ih (c :: r) (out ++ [(dist b a, 2)])
          refine ⟨?_, fun h => h2 ?_, fun _ => h3 (by simp)⟩
          · rw [h1, hsum_append, hsum_one]; simp; omega
          · intro x hx
            rcases List.mem_append.1 hx with h' | h'
            · exact h x h'
            · rw [show x = _ by simpa using h']; exact .inr rfl
theorem pile_h (ts : List Int) : hsum (pileR ts).2 + ((pileR ts).1.length : Int) = ts.length ∧ Halves (pileR ts).2 ∧ (ts ≠ [] → (pileR ts).1 ≠ []) := by
  have : ∀ (ts s : List Int) (out : List (Int × Int)), hsum (ts.foldl (fun s p => shrinkR (s.1.length + 1) (p :: s.1) s.2) (s, out)).2 + ((ts.foldl (fun s p => shrinkR (s.1.length + 1) (p :: s.1) s.2) (s, out)).1.length : Int) = hsum out + s.length + ts.length ∧
      (Halves out → Halves (ts.foldl (fun s p => shrinkR (s.1.length + 1) (p :: s.1) s.2) (s, out)).2) ∧ (s ≠ [] ∨ ts ≠ [] → (ts.foldl (fun s p => shrinkR (s.1.length + 1) (p :: s.1) s.2) (s, out)).1 ≠ []) := by
    intro ts
    induction ts with
    | nil => intro s out; exact ⟨by simp, id, fun h => h.elim id (fun h => absurd rfl h)⟩
    | cons t ts ih =>
      intro s out
      simp only [List.foldl_cons]
      obtain ⟨h1, h2, h3⟩ := shrink_h (s.length + 1) (t :: s) out
      obtain ⟨k1, k2, k3⟩ := ih (shrinkR (s.length + 1) (t :: s) out).1 (shrinkR (s.length + 1) (t :: s) out).2
      refine ⟨?_, fun h => k2 (h2 h), fun _ => k3 (.inl (h3 (by simp)))⟩
      rw [k1, h1]; simp only [List.length_cons]; omega
  obtain ⟨h1, h2, h3⟩ := this ts [] []
  refine ⟨?_, h2 (fun _ h => by cases h), fun h => h3 (.inr h)⟩
  have h1' : hsum (pileR ts).2 + ((pileR ts).1.length : Int) = hsum [] + (([] : List Int).length : Int) + ts.length := h1
  rw [h1', hsum_nil]; simp
theorem rest_h (pile : List Int) : hsum (restP pile) = ((pile.length - 1 : Nat) : Int) ∧ Halves (restP pile) := by
  unfold restP
  constructor
  · generalize pile.length - 1 = n
    induction n with
    | zero => rfl
    | succ n ih => rw [List.range_succ, List.map_append, hsum_append, ih]; rw [List.map_singleton, hsum_one]; omega
  · intro x hx
    obtain ⟨i, _, rfl⟩ := List.mem_map.1 hx
    exact .inl rfl
theorem cyc_halves (zs : List Int) : hsum (cycP zs) = ((turnP zs).length - 1 : Nat) ∧ Halves (cycP zs) := by
  unfold cycP
  obtain ⟨h1, h2, h3⟩ := pile_h (turnP zs)
  rw [pileP_rev]
  obtain ⟨r1, r2⟩ := rest_h (pileR (turnP zs)).1.reverse
  constructor
  · rw [hsum_append, r1, List.length_reverse]
    show hsum (pileR (turnP zs)).2 + _ = _
    by_cases e : turnP zs = []
    · rw [e]; rfl
    · have h4 := List.length_pos_iff.2 (h3 e)
      have h5 := List.length_pos_iff.2 e
      omega
  · intro x hx
    rcases List.mem_append.1 hx with h | h
    · exact h2 x h
    · exact r2 x h

/-! ### The greatest range -/
def InHull (l : List Int) (x : Int) : Prop := (∃ a ∈ l, a ≤ x) ∧ ∃ b ∈ l, x ≤ b
theorem InHull.mem {l : List Int} {x : Int} (h : x ∈ l) : InHull l x := ⟨⟨x, h, Int.le_refl _⟩, x, h, Int.le_refl _⟩
theorem InHull.trans {l l' : List Int} {x : Int} (h : InHull l x) (hl : ∀ y ∈ l, InHull l' y) : InHull l' x := by
  obtain ⟨⟨a, ha, hax⟩, b, hb, hxb⟩ := h
  obtain ⟨⟨a', ha', h1⟩, _⟩ := hl a ha
  obtain ⟨_, b', hb', h2⟩ := hl b hb
  exact ⟨⟨a', ha', by omega⟩, b', hb', by omega⟩
theorem InHull.between {l : List Int} {x a b : Int} (ha : a ∈ l) (hb : b ∈ l) (h : (a ≤ x ∧ x ≤ b) ∨ (b ≤ x ∧ x ≤ a)) : InHull l x := by
  rcases h with h | h
  · exact ⟨⟨a, ha, h.1⟩, b, hb, h.2⟩
  · exact ⟨⟨b, hb, h.1⟩, a, ha, h.2⟩
theorem step_hull (s : List Int) (x : Int) : (∀ y ∈ s, InHull (stepR s x) y) ∧ InHull (stepR s x) x := by
  match s with
  | [] => exact ⟨(fun _ h => by cases h), InHull.mem (by simp [stepR])⟩
  | [p] =>
    rw [stepR_one]
    by_cases e : p = x
    · rw [if_pos e]; exact ⟨fun y hy => InHull.mem hy, InHull.mem (by simp [e])⟩
    · rw [if_neg e]; exact ⟨fun y hy => InHull.mem (List.mem_cons_of_mem _ hy), InHull.mem (by simp)⟩
  | p :: q :: r =>
    rw [stepR_two]
    by_cases e : p = x
    · rw [if_pos e]; exact ⟨fun y hy => InHull.mem hy, InHull.mem (by simp [e])⟩
    · rw [if_neg e]
      by_cases t : q < p ↔ p < x
      · rw [if_pos t]
        refine ⟨fun y hy => ?_, InHull.mem (by simp)⟩
        rcases List.mem_cons.1 hy with h | h
        · subst h; exact InHull.between (a := q) (b := x) (by simp) (by simp) (by omega)
        · exact InHull.mem (List.mem_cons_of_mem _ h)
      · rw [if_neg t]; exact ⟨fun y hy => InHull.mem (List.mem_cons_of_mem _ hy), InHull.mem (by simp)⟩
theorem turn_hull (zs : List Int) : ∀ y ∈ zs, InHull (turnR zs) y := by
  have : ∀ (zs s : List Int) (P : List Int), (∀ y ∈ P, InHull s y) → ∀ y, y ∈ P ∨ y ∈ zs → InHull (zs.foldl stepR s) y := by
    intro zs
    induction zs with
    | nil => intro s P h y hy; exact h y (hy.elim id (fun h => by cases h))
    | cons z zs ih =>
      intro s P h y hy
      have hs := step_hull s z
      refine ih (stepR s z) (z :: P) (fun y hy => ?_) y ?_
      · rcases List.mem_cons.1 hy with e | e
        · subst e; exact hs.2
        · exact (h y e).trans hs.1
      · rcases hy with h | h
        · exact .inl (List.mem_cons_of_mem _ h)
        · rcases List.mem_cons.1 h with e | e
          · exact .inl (by rw [e]; simp)
          · exact .inr e
  exact fun y hy => this zs [] [] (fun _ h => by cases h) y (.inr hy)

/-- Each element of the stack lies strictly between the two below it. -/
def Nest : List Int → Prop
  | [] => True
  | [_] => True
  | [b, a] => a ≠ b
  | c :: b :: a :: r => ((b < c ∧ c < a) ∨ (a < c ∧ c < b)) ∧ Nest (b :: a :: r)
/-- The top may reach beyond; it turns. -/
def Pre : List Int → Prop
  | [] => True
  | [_] => True
  | [b, a] => a ≠ b
  | c :: b :: a :: r => b ≠ c ∧ ¬ (a < b ↔ b < c) ∧ Nest (b :: a :: r)

theorem Nest.tail {c : Int} {s : List Int} (h : Nest (c :: s)) : Nest s := by
  match s, h with
  | [], _ => trivial
  | [_], _ => trivial
  | _ :: _ :: _, h => exact h.2
theorem shrink_nest : ∀ (f : Nat) (s : List Int) (out : List (Int × Int)), s.length ≤ f → Pre s → Nest (shrinkR f s out).1 ∧ (∀ y ∈ s, InHull (shrinkR f s out).1 y) ∧ (∀ y ∈ (shrinkR f s out).1, y ∈ s) ∧
    (∀ c b r, s = c :: b :: r → ∃ b' r', (shrinkR f s out).1 = c :: b' :: r' ∧ (b' < c ↔ b < c)) := by
  intro f
  induction f with
  | zero =>
    intro s out hl h
    have : s = [] := List.eq_nil_of_length_eq_zero (by omega)
    subst this
    exact ⟨trivial, (fun _ h => by cases h), (fun _ h => h), (fun _ _ _ h => by cases h)⟩
  | succ f ih =>
    intro s out hl h
    match s, h with
    | [], _ => exact ⟨trivial, fun y hy => InHull.mem hy, fun _ h => h, (fun _ _ _ h => by cases h)⟩
    | [a], _ => exact ⟨trivial, fun y hy => InHull.mem hy, fun _ h => h, (fun _ _ _ h => by cases h)⟩
    | [b, a], h => exact ⟨h, fun y hy => InHull.mem hy, fun _ h => h, fun c' b' r' e => by cases e; exact ⟨a, [], rfl, Iff.rfl⟩⟩
    | c :: b :: a :: r, ⟨h1, h2, h3⟩ =>
      rw [shrinkR_succ]
      by_cases hd : dist c b < dist b a
      · rw [if_pos hd]
        refine ⟨⟨?_, h3⟩, fun y hy => InHull.mem hy, fun _ h => h, fun c' b' r' e => by cases e; exact ⟨b, a :: r, rfl, Iff.rfl⟩⟩
        unfold dist at hd
        omega
      · rw [if_neg hd]
        unfold dist at hd
        by_cases hr : r = []
        · subst hr
          rw [if_pos rfl]
          obtain ⟨k1, k2, k3, k4⟩ := ih [c, b] (out ++ [(dist b a, 1)]) (by simp only [List.length_cons, List.length_nil] at hl ⊢; omega) h1
          refine ⟨k1, fun y hy => ?_, fun y hy => ?_, fun c' b' r' e => ?_⟩
          · simp only [List.mem_cons, List.not_mem_nil, or_false] at hy
            rcases hy with rfl | rfl | rfl
            · exact k2 _ (by simp)
            · exact k2 _ (by simp)
            · have hab := h3
              unfold Nest at hab
              exact (InHull.between (l := [c, b]) (a := c) (b := b) (by simp) (by simp) (by omega)).trans k2
          · have := k3 y hy
            simp only [List.mem_cons, List.not_mem_nil, or_false] at this ⊢
            rcases this with h | h
            · exact .inl h
            · exact .inr (.inl h)
          · cases e
            exact k4 c b [] rfl
        · rw [if_neg hr]
          obtain ⟨z, r', rfl⟩ := List.exists_cons_of_ne_nil hr
          have h3a := h3.1
          have hpre : Pre (c :: z :: r') := by
            match r', h3 with
            | [], h3 => show z ≠ c; omega
            | y :: r'', h3 =>
              have h4 := h3.2.1
              exact ⟨by omega, by omega, h3.2.2⟩
          obtain ⟨k1, k2, k3, k4⟩ := ih (c :: z :: r') (out ++ [(dist b a, 2)]) (by simp only [List.length_cons] at hl ⊢; omega) hpre
          refine ⟨k1, fun y hy => ?_, fun y hy => ?_, fun c' b' r0 e => ?_⟩
          · rcases List.mem_cons.1 hy with e | hy
            · exact k2 y (by rw [e]; simp)
            · rcases List.mem_cons.1 hy with e | hy
              · subst e; exact (InHull.between (l := c :: z :: r') (a := c) (b := z) (by simp) (by simp) (by omega)).trans k2
              · rcases List.mem_cons.1 hy with e | hy
                · subst e; exact (InHull.between (l := c :: z :: r') (a := c) (b := z) (by simp) (by simp) (by omega)).trans k2
                · exact k2 y (List.mem_cons_of_mem _ hy)
          · have := k3 y hy
            rcases List.mem_cons.1 this with e | h
            · rw [e]; simp
            · exact List.mem_cons_of_mem _ (List.mem_cons_of_mem _ (List.mem_cons_of_mem _ h))
          · cases e
            obtain ⟨b2, r2, e2, e3⟩ := k4 c z r' rfl
            exact ⟨b2, r2, e2, by rw [e3]; omega⟩

/-- The pile of turning points that stand last first. -/
def pileS : List Int → List Int × List (Int × Int)
  | [] => ([], [])
  | t :: l => shrinkR ((pileS l).1.length + 1) (t :: (pileS l).1) (pileS l).2
theorem pileS_eq (l : List Int) : pileR l.reverse = pileS l := by
  unfold pileR
  rw [List.foldl_reverse]
  induction l with
  | nil => rfl
  | cons t l ih => rw [List.foldr_cons, ih]; rfl
theorem pile_nest : ∀ (l : List Int), Alt l → Nest (pileS l).1 ∧ (∀ y ∈ l, InHull (pileS l).1 y) ∧ (∀ y ∈ (pileS l).1, y ∈ l) ∧ (∀ c, l = [c] → (pileS l).1 = [c]) ∧ (∀ c b l', l = c :: b :: l' → ∃ b' r', (pileS l).1 = c :: b' :: r' ∧ (b' < c ↔ b < c)) := by
  intro l
  induction l with
  | nil => intro _; exact ⟨trivial, (fun _ h => by cases h), (fun _ h => h), (fun _ h => by cases h), (fun _ _ _ h => by cases h)⟩
  | cons t l ih =>
    intro hA
    obtain ⟨i1, i2, i3, i4, i5⟩ := ih hA.tail
    have hpre : Pre (t :: (pileS l).1) := by
      match l, hA, i1, i4, i5 with
      | [], _, _, _, _ => trivial
      | [b], hA, _, i4, _ => rw [i4 b rfl]; exact hA
      | b :: a :: l1, hA, i1, _, i5 =>
        obtain ⟨b', r', e, h⟩ := i5 b a l1 rfl
        rw [e] at i1 ⊢
        exact ⟨hA.1, by have := hA.2.1; omega, i1⟩
    obtain ⟨k1, k2, k3, k4⟩ := shrink_nest ((pileS l).1.length + 1) (t :: (pileS l).1) (pileS l).2 (by simp) hpre
    refine ⟨k1, fun y hy => ?_, fun y hy => ?_, fun c e => ?_, fun c b l' e => ?_⟩
    · rcases List.mem_cons.1 hy with h | h
      · exact k2 y (by rw [h]; simp)
      · exact (i2 y h).trans (fun z hz => k2 z (List.mem_cons_of_mem _ hz))
    · rcases List.mem_cons.1 (k3 y hy) with h | h
      · rw [h]; simp
      · exact List.mem_cons_of_mem _ (i3 y h)
    · cases e; rfl
    · cases e
      match l', i4, i5 with
      | [], i4, _ =>
        have e := i4 b rfl
        exact k4 t b [] (by rw [e])
      | a :: l1, _, i5 =>
        obtain ⟨b', r', e, h⟩ := i5 b a l1 rfl
        exact k4 t b (b' :: r') (by rw [e])

theorem nest_bot : ∀ (s : List Int), Nest s → 2 ≤ s.length → ∃ r x1 x0, s = r ++ [x1, x0] ∧ ∀ y ∈ s, (x0 ≤ y ∧ y ≤ x1) ∨ (x1 ≤ y ∧ y ≤ x0) := by
  intro s
  induction s with
  | nil => intro _ h; simp at h
  | cons c s ih =>
    intro h hl
    match s, h with
    | [], _ => simp at hl
    | [a], _ => exact ⟨[], c, a, rfl, fun y hy => by
        simp only [List.mem_cons, List.not_mem_nil, or_false] at hy
        rcases hy with rfl | rfl <;> omega⟩
    | b :: a :: r, h =>
      obtain ⟨r', x1, x0, e, hb⟩ := ih h.2 (by simp)
      refine ⟨c :: r', x1, x0, by rw [e]; rfl, fun y hy => ?_⟩
      rcases List.mem_cons.1 hy with h' | h'
      · subst h'
        have h1 := hb b (by simp)
        have h2 := hb a (by simp)
        have h3 := h.1
        omega
      · exact hb y h'

/-- Each range is the distance of two loads. -/
def Ranges (zs : List Int) (out : List (Int × Int)) : Prop := ∀ x ∈ out, ∃ a ∈ zs, ∃ b ∈ zs, x.1 = dist a b
theorem Ranges.snoc {zs : List Int} {out : List (Int × Int)} (h : Ranges zs out) {a b k : Int} (ha : a ∈ zs) (hb : b ∈ zs) : Ranges zs (out ++ [(dist a b, k)]) := by
  intro x hx
  rcases List.mem_append.1 hx with h' | h'
  · exact h x h'
  · rw [show x = (dist a b, k) by simpa using h']; exact ⟨a, ha, b, hb, rfl⟩
theorem shrink_ranges (zs : List Int) : ∀ (f : Nat) (s : List Int) (out : List (Int × Int)), (∀ y ∈ s, y ∈ zs) → Ranges zs out → Ranges zs (shrinkR f s out).2 ∧ ∀ y ∈ (shrinkR f s out).1, y ∈ zs := by
  intro f
  induction f with
  | zero => intro s out hs ho; exact ⟨ho, hs⟩
  | succ f ih =>
    intro s out hs ho
    match s, hs with
    | [], hs => exact ⟨ho, hs⟩
    | [_], hs => exact ⟨ho, hs⟩
    | [_, _], hs => exact ⟨ho, hs⟩
    | c :: b :: a :: r, hs =>
      have hb : b ∈ zs := hs b (by simp)
      have ha : a ∈ zs := hs a (by simp)
      rw [shrinkR_succ]
      by_cases hd : dist c b < dist b a
      · rw [if_pos hd]; exact ⟨ho, hs⟩
      · rw [if_neg hd]
        by_cases hr : r = []
        · rw [if_pos hr]
          exact ih [c, b] _ (fun y hy => hs y (by simp only [List.mem_cons, List.not_mem_nil, or_false] at hy ⊢; rcases hy with h | h <;> simp [h])) (ho.snoc hb ha)
        · rw [if_neg hr]
          exact ih (c :: r) _ (fun y hy => hs y (by simp only [List.mem_cons] at hy ⊢; rcases hy with h | h <;> simp [h])) (ho.snoc hb ha)
theorem pile_ranges (zs : List Int) : ∀ l : List Int, (∀ y ∈ l, y ∈ zs) → Ranges zs (pileS l).2 ∧ ∀ y ∈ (pileS l).1, y ∈ zs := by
  intro l
  induction l with
  | nil => intro _; exact ⟨(fun _ h => by cases h), (fun _ h => by cases h)⟩
  | cons t l ih =>
    intro h
    obtain ⟨h1, h2⟩ := ih (fun y hy => h y (List.mem_cons_of_mem _ hy))
    exact shrink_ranges zs _ _ _ (fun y hy => by
      rcases List.mem_cons.1 hy with e | e
      · rw [e]; exact h t (by simp)
      · exact h2 y e) h1
theorem rest_ranges (zs pile : List Int) (h : ∀ y ∈ pile, y ∈ zs) : Ranges zs (restP pile) := by
  intro x hx
  obtain ⟨i, hi, rfl⟩ := List.mem_map.1 hx
  have hi := List.mem_range.1 hi
  exact ⟨_, h _ (get_mem pile (i + 1) (by omega)), _, h _ (get_mem pile i (by omega)), rfl⟩
theorem cyc_ranges (zs : List Int) : Ranges zs (cycP zs) := by
  have ht : ∀ y ∈ turnR zs, y ∈ zs := fun y hy => turnP_mem zs y (by rw [turnP_rev]; simpa using hy)
  obtain ⟨h1, h2⟩ := pile_ranges zs (turnR zs) ht
  unfold cycP
  rw [turnP_rev, pileP_rev, pileS_eq]
  intro x hx
  rcases List.mem_append.1 hx with h | h
  · exact h1 x h
  · exact rest_ranges zs _ (fun y hy => h2 y (by simpa using hy)) x h
/-- The greatest range is that between the greatest and the least load. -/
theorem cyc_great (zs : List Int) (lo hi : Int) (hlo : lo ∈ zs) (hhi : hi ∈ zs) (hb : ∀ x ∈ zs, lo ≤ x ∧ x ≤ hi) : (∀ x ∈ cycP zs, 0 ≤ x.1 ∧ x.1 ≤ hi - lo) ∧ (lo = hi ∨ ∃ x ∈ cycP zs, x.1 = hi - lo) := by
  constructor
  · intro x hx
    obtain ⟨a, ha, b, hb', e⟩ := cyc_ranges zs x hx
    have h1 := hb a ha
    have h2 := hb b hb'
    rw [e]; unfold dist; omega
  · obtain ⟨n1, n2, n3, _, _⟩ := pile_nest (turnR zs) (alt_turn zs)
    have ht : ∀ y ∈ turnR zs, y ∈ zs := fun y hy => turnP_mem zs y (by rw [turnP_rev]; simpa using hy)
    have inS : ∀ y ∈ (pileS (turnR zs)).1, y ∈ zs := fun y hy => ht y (n3 y hy)
    have hl : lo ∈ (pileS (turnR zs)).1 := by
      obtain ⟨⟨a, ha, h⟩, _⟩ := (turn_hull zs lo hlo).trans n2
      have := hb a (inS a ha)
      rwa [show lo = a by omega]
    have hh : hi ∈ (pileS (turnR zs)).1 := by
      obtain ⟨_, b, hb', h⟩ := (turn_hull zs hi hhi).trans n2
      have := hb b (inS b hb')
      rwa [show hi = b by omega]
    by_cases h2 : 2 ≤ (pileS (turnR zs)).1.length
    · obtain ⟨r, x1, x0, e, hbt⟩ := nest_bot _ n1 h2
      have m1 := hb x1 (inS x1 (by rw [e]; simp))
      have m0 := hb x0 (inS x0 (by rw [e]; simp))
      have q1 := hbt lo hl
      have q2 := hbt hi hh
      refine .inr ⟨(dist x1 x0, 1), ?_, by show dist x1 x0 = hi - lo; unfold dist; omega⟩
      unfold cycP
      rw [turnP_rev, pileP_rev, pileS_eq]
      refine List.mem_append.2 (.inr ?_)
      unfold restP
      refine List.mem_map.2 ⟨0, List.mem_range.2 (by rw [List.length_reverse]; omega), ?_⟩
      rw [e]
      simp
    · left
      match hq : (pileS (turnR zs)).1, hl, hh, h2 with
      | [], hl, _, _ => cases hl
      | [c], hl, hh, _ => simp at hl hh; omega
      | _ :: _ :: _, _, _, h2 => simp at h2
end Go.Proofs.YtchnhjffpldpiaaDoor
