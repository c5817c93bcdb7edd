/- What PartsCounted reckons, in plain lists; two slices of integers that grow side by side. No walk. -/
import Derived.Test.YtchnhjffpldpiaaDoorCounted
import Derived.Test.YtchnhjffpldpiaaDoorSeries
namespace Go.Proofs.YtchnhjffpldpiaaDoor
open Go Go.RowKit

def gre (l : List (Int × Int)) : Int := l.foldl (fun g x => max g x.1) 0
theorem gre_snoc (l : List (Int × Int)) (x : Int × Int) : gre (l ++ [x]) = max (gre l) x.1 := by unfold gre; rw [List.foldl_append]; rfl
theorem gre_ge : ∀ (l : List (Int × Int)) (g : Int), (g ≤ l.foldl (fun g x => max g x.1) g ∧ ∀ x ∈ l, x.1 ≤ l.foldl (fun g x => max g x.1) g) := by
  intro l
  induction l with
  | nil => intro g; exact ⟨Int.le_refl _, fun _ h => by cases h⟩
  | cons y l ih =>
    intro g
    rw [List.foldl_cons]
    obtain ⟨h1, h2⟩ := ih (max g y.1)
    refine ⟨Int.le_trans (by omega) h1, fun x hx => ?_⟩
    rcases List.mem_cons.1 hx with e | e
    · subst e; exact Int.le_trans (by omega) h1
    · exact h2 x e
theorem gre_le (D : Int) : ∀ (l : List (Int × Int)) (g : Int), g ≤ D → (∀ x ∈ l, x.1 ≤ D) → l.foldl (fun g x => max g x.1) g ≤ D := by
  intro l
  induction l with
  | nil => intro g h _; exact h
  | cons y l ih =>
    intro g h hx
    rw [List.foldl_cons]
    refine ih _ ?_ fun x h => hx x (List.mem_cons_of_mem _ h)
    have := hx y (by simp)
    omega
theorem gre_eq {l : List (Int × Int)} {D : Int} (h1 : ∀ x ∈ l, 0 ≤ x.1 ∧ x.1 ≤ D) (h0 : 0 ≤ D) (h2 : D = 0 ∨ ∃ x ∈ l, x.1 = D) : gre l = D := by
  have a := gre_le D l 0 h0 fun x hx => (h1 x hx).2
  have b := gre_ge l 0
  unfold gre
  rcases h2 with h2 | ⟨x, hx, e⟩
  · have := b.1; omega
  · have := b.2 x hx; omega

def lowP (zs : List Int) : Nat → Int
  | 0 => zs[0]!
  | k + 1 => min (lowP zs k) zs[k]!
def highP (zs : List Int) : Nat → Int
  | 0 => zs[0]!
  | k + 1 => max (highP zs k) zs[k]!
theorem lowP_zero (zs : List Int) : lowP zs 0 = zs[0]! := rfl
theorem highP_zero (zs : List Int) : highP zs 0 = zs[0]! := rfl
theorem lowP_succ (zs : List Int) (k : Nat) : lowP zs (k + 1) = min (lowP zs k) zs[k]! := rfl
theorem highP_succ (zs : List Int) (k : Nat) : highP zs (k + 1) = max (highP zs k) zs[k]! := rfl
theorem low_mem (zs : List Int) (h : 0 < zs.length) : ∀ k, k ≤ zs.length → lowP zs k ∈ zs := by
  intro k
  induction k with
  | zero => intro _; exact get_mem zs 0 h
  | succ k ih =>
    intro hk
    rw [lowP_succ]
    by_cases e : zs[k]! < lowP zs k
    · rw [show min (lowP zs k) zs[k]! = zs[k]! by omega]; exact get_mem zs k (by omega)
    · rw [show min (lowP zs k) zs[k]! = lowP zs k by omega]; exact ih (by omega)
theorem high_mem (zs : List Int) (h : 0 < zs.length) : ∀ k, k ≤ zs.length → highP zs k ∈ zs := by
  intro k
  induction k with
  | zero => intro _; exact get_mem zs 0 h
  | succ k ih =>
    intro hk
    rw [highP_succ]
    by_cases e : zs[k]! > highP zs k
    · rw [show max (highP zs k) zs[k]! = zs[k]! by omega]; exact get_mem zs k (by omega)
    · rw [show max (highP zs k) zs[k]! = highP zs k by omega]; exact ih (by omega)
theorem low_le (zs : List Int) : ∀ k i, i < k → lowP zs k ≤ zs[i]! := by
  intro k
  induction k with
  | zero => intro i h; omega
  | succ k ih =>
    intro i h
    rw [lowP_succ]
    by_cases e : i = k
    · subst e; omega
    · have := ih i (by omega)
      omega
theorem high_ge (zs : List Int) : ∀ k i, i < k → zs[i]! ≤ highP zs k := by
  intro k
  induction k with
  | zero => intro i h; omega
  | succ k ih =>
    intro i h
    rw [highP_succ]
    by_cases e : i = k
    · subst e; omega
    · have := ih i (by omega)
      omega
theorem mem_get {zs : List Int} {x : Int} (h : x ∈ zs) : ∃ i, i < zs.length ∧ zs[i]! = x := by
  obtain ⟨i, hi, e⟩ := List.getElem_of_mem h
  exact ⟨i, hi, by rw [getElem!_pos zs i hi, e]⟩
theorem hull_all (zs : List Int) (x : Int) (h : x ∈ zs) : lowP zs zs.length ≤ x ∧ x ≤ highP zs zs.length := by
  obtain ⟨i, hi, rfl⟩ := mem_get h
  exact ⟨low_le zs _ i hi, high_ge zs _ i hi⟩
theorem gre_cyc (zs : List Int) (h : 0 < zs.length) : gre (cycP zs) = highP zs zs.length - lowP zs zs.length := by
  have hl := low_mem zs h _ (Nat.le_refl _)
  have hh := high_mem zs h _ (Nat.le_refl _)
  have hlh := (hull_all zs _ hh).1
  obtain ⟨h1, h2⟩ := cyc_great zs _ _ hl hh (hull_all zs)
  refine gre_eq h1 (by omega) ?_
  rcases h2 with h2 | h2
  · exact .inl (by omega)
  · exact .inr h2

theorem take_snoc {α : Type} [Inhabited α] (l : List α) (k : Nat) (h : k < l.length) : l.take (k + 1) = l.take k ++ [l[k]!] := by
  rw [getElem!_pos l k h, List.take_add_one, List.getElem?_eq_getElem h]; rfl
theorem hsum_take (cs : List (Int × Int)) (k : Nat) (h : k < cs.length) : hsum (cs.take (k + 1)) = hsum (cs.take k) + (cs[k]!).2 := by
  rw [take_snoc cs k h, hsum_append, hsum_one]
theorem gre_take (cs : List (Int × Int)) (k : Nat) (h : k < cs.length) : gre (cs.take (k + 1)) = max (gre (cs.take k)) (cs[k]!).1 := by
  rw [take_snoc cs k h, gre_snoc]
theorem get_mem2 (cs : List (Int × Int)) (k : Nat) (h : k < cs.length) : cs[k]! ∈ cs := by
  rw [getElem!_pos cs k h]; exact List.getElem_mem h
theorem hsum_bound (cs : List (Int × Int)) (h : Halves cs) : ∀ k, k ≤ cs.length → 0 ≤ hsum (cs.take k) ∧ hsum (cs.take k) ≤ 2 * (k : Int) := by
  intro k
  induction k with
  | zero => intro _; exact ⟨Int.le_refl _, Int.le_refl _⟩
  | succ k ih =>
    intro hk
    have := ih (by omega)
    rw [hsum_take cs k (by omega)]
    rcases h _ (get_mem2 cs k (by omega)) with e | e <;> omega

theorem loads_len {zs : List Int} (hl : zs.length ≤ 300) (h : Loads zs) : seriesE zs = 0 := by
  unfold seriesE
  rw [if_neg (by omega), if_neg]
  intro hb
  obtain ⟨x, hx, hb⟩ := List.any_eq_true.1 hb
  have := h x hx
  have hb2 : inB x (-1000000) 1000000 = true := by simp [inB]; omega
  unfold badLoad at hb
  rw [hb2] at hb
  exact absurd hb (by decide)
theorem minus_ok {zs : List Int} (h : seriesE zs = 0) : seriesE (zs.map fun a => -a) = 0 := by
  obtain ⟨h1, h2⟩ := loads_of h
  refine loads_len (by simpa using h1) fun x hx => ?_
  obtain ⟨y, hy, rfl⟩ := List.mem_map.1 hx
  have := h2 y hy
  omega
theorem twice_ok {zs : List Int} (h : seriesE zs = 0) (hn : zs.length < 300) (at_ : Int) : seriesE (dupUp zs at_ zs.length) = 0 := by
  obtain ⟨h1, h2⟩ := loads_of h
  exact loads_len (by have := dup_len' zs at_ zs.length; omega) fun x hx => h2 x (dup_mem zs at_ x _ (Nat.le_refl _) hx)
theorem added_ok {zs : List Int} (h : seriesE zs = 0) (m : Int) (hlo : -1000000 ≤ lowP zs zs.length + m) (hhi : highP zs zs.length + m ≤ 1000000) : seriesE (zs.map fun a => a + m) = 0 := by
  obtain ⟨h1, h2⟩ := loads_of h
  refine loads_len (by simpa using h1) fun x hx => ?_
  obtain ⟨y, hy, rfl⟩ := List.mem_map.1 hx
  have := hull_all zs y hy
  omega

theorem map_take_snoc (g : Int → Int) (zs : List Int) (k : Nat) (h : k < zs.length) : (zs.take (k + 1)).map g = (zs.take k).map g ++ [g zs[k]!] := by
  rw [take_snoc zs k h, List.map_append]; rfl
theorem dup_no {zs : List Int} {at_ : Int} {k : Nat} (h : ¬ (k : Int) = at_) : dupUp zs at_ (k + 1) = dupUp zs at_ k ++ [zs[k]!] := by rw [dupUp_succ, if_neg h]
theorem dup_yes {zs : List Int} {at_ : Int} {k : Nat} (h : (k : Int) = at_) : dupUp zs at_ (k + 1) = dupUp zs at_ k ++ [zs[k]!] ++ [zs[k]!] := by rw [dupUp_succ, if_pos h, List.append_assoc]; rfl

theorem OwnI.rd {E : TypeId} {w : World} {B : Nat} {v : Value} {xs : List Int} (h : OwnI E w B v xs) (hl : xs.length ≤ 1000000) : ∃ a c, v = .slice a xs.length c ∧ Rd encInt 1 w w.heap.size a xs.length xs := by
  by_cases e : xs = []
  · obtain ⟨a, c, e2, _⟩ := h.view
    exact ⟨a, c, e2, rfl, by omega, 0, 0, fun h => by rw [e] at h; simp at h, fun j hj => by rw [e] at hj; simp at hj⟩
  · obtain ⟨g, off, cap, e2, _, _, _, hg, hc⟩ := h.form e
    refine ⟨_, cap, e2, rfl, by omega, g, off, fun _ => ⟨rfl, hg⟩, fun j hj i u hu => ?_⟩
    cases i with
    | zero => injection hu with hu; rw [← hu, Nat.mul_one, Nat.add_zero]; exact (hc j hj).1
    | succ i => cases hu

/-- Two slices of integers, each in a block of its own. -/
structure Two (E : TypeId) (w : World) (B : Nat) (v1 v2 : Value) (xs ys : List Int) : Prop where
  fst : OwnI E w B v1 xs
  snd : OwnI E w B v2 ys
  apart : ∀ g, v1.ownBlock = some g → v2.ownBlock ≠ some g
variable {E : TypeId} {w wr W w1 : World} {B : Nat} {v1 v2 v1' : Value} {xs ys xs' : List Int}
theorem Two.nil : Two E w B (.slice none 0 0) (.slice none 0 0) [] [] := ⟨OwnI.nil, OwnI.nil, fun _ h => by cases h⟩
theorem Two.swap (h : Two E w B v1 v2 xs ys) : Two E w B v2 v1 ys xs := ⟨h.snd, h.fst, fun g h1 h2 => h.apart g h2 h1⟩
theorem Two.below (h : Two E w B v1 v2 xs ys) (hb : Below w.heap.size w W) : Two E W B v1 v2 xs ys := ⟨h.fst.below hb, h.snd.below hb, h.apart⟩
/-- One of them grows. -/
theorem Two.grow (h : Two E w B v1 v2 xs ys) {o : Obj} (G : (w.alloc o).grownBy w1 v1.ownBlock) {g off n cap : Nat} (ho : OwnI E w1 B (.slice (some ⟨g, off, none⟩) n cap) xs') (hg : v1.ownBlock = some g ∨ (w.alloc o).heap.size ≤ g) :
    Two E w1 B (.slice (some ⟨g, off, none⟩) n cap) v2 xs' ys := by
  refine ⟨ho, (h.snd.below ((Below.refl _ _).alloc (Nat.le_refl _) o)).kept fun k hk => ?_, fun k h1 h2 => ?_⟩
  · have h3 := (h.snd.own hk).2
    refine G.block k (by rw [World.size_alloc]; omega) fun h1 => h.apart k h1.symm hk
  · have e : k = g := (Option.some.inj h1).symm
    subst e
    rcases hg with hg | hg
    · exact h.apart k hg h2
    · have := (h.snd.own h2).2
      rw [World.size_alloc] at hg
      omega
theorem Two.keep (h : Two E w B v1 v2 xs ys) {w0 : World} {B0 : Nat} (hb : Below B0 w0 w) (hB : B0 ≤ B) (hB0 : B0 ≤ w0.heap.size) {o : Obj} (G : (w.alloc o).grownBy w1 v1.ownBlock) : Below B0 w0 w1 := by
  have h1 := hb.size
  refine (hb.alloc (by omega) o).grown G (by rw [World.size_alloc]; omega) fun k hk => Nat.le_trans hB (h.fst.own hk).1
end Go.Proofs.YtchnhjffpldpiaaDoor
