/- parts.covered, Gaps, Doubles. -/
import Derived.Test.YtchnhjffpldpiaaDoorRPag2
namespace Go.Proofs.YtchnhjffpldpiaaDoor
open Go Go.RowKit

/-! ## plain -/
def chgL (pages : List (Int × Int)) (hours k : Nat) : List Int := (List.range (hours + 1)).map fun (i : Nat) => chgUp pages (i : Int) k
theorem chgL_len (pages : List (Int × Int)) (hours k : Nat) : (chgL pages hours k).length = hours + 1 := by simp [chgL]
theorem chgL_get (pages : List (Int × Int)) (hours k i : Nat) (hi : i < hours + 1) : (chgL pages hours k)[i]! = chgUp pages (i : Int) k := by
  rw [getElem!_pos _ i (by rw [chgL_len]; exact hi)]
  simp [chgL]
theorem chgL_zero (pages : List (Int × Int)) (hours : Nat) : chgL pages hours 0 = List.replicate (hours + 1) 0 := by
  apply List.ext_getElem (by simp [chgL])
  intro i h1 h2
  simp [chgL, chgUp_zero]
theorem chgL_step (pages : List (Int × Int)) (hours k lo hi : Nat) (hp : pages[k]! = ((lo : Int), (hi : Int))) (h1 : lo ≤ hi) :
    ((chgL pages hours k).set lo (chgUp pages (lo : Int) k + 1)).set (hi + 1) (chgUp pages ((hi : Int) + 1) k - 1) = chgL pages hours (k + 1) := by
  apply List.ext_getElem (by simp [chgL])
  intro i h3 h4
  rw [List.length_set, List.length_set, chgL_len] at h3
  have e : (chgL pages hours (k + 1))[i] = chgUp pages (i : Int) k + (if lo = i then 1 else 0) - (if hi + 1 = i then 1 else 0) := by
    have := chgL_get pages hours (k + 1) i h3
    rw [getElem!_pos _ i h4] at this
    rw [this, chgUp_succ, hp]
    simp only
    congr 1
    · congr 1
      by_cases h : lo = i
      · rw [if_pos h, if_pos (by omega)]
      · rw [if_neg h, if_neg (by omega)]
    · by_cases h : hi + 1 = i
      · rw [if_pos h, if_pos (by omega)]
      · rw [if_neg h, if_neg (by omega)]
  rw [e, List.getElem_set, List.getElem_set]
  have g := chgL_get pages hours k i h3
  rw [getElem!_pos _ i (by rw [chgL_len]; exact h3)] at g
  by_cases a : hi + 1 = i
  · rw [if_pos a, if_neg (by omega), if_pos a]
    subst a; push_cast; omega
  · rw [if_neg a, if_neg a]
    by_cases b : lo = i
    · rw [if_pos b, if_pos b]; subst b; omega
    · rw [if_neg b, if_neg b, g]; omega

/-! ## spans.Check on a box of one span -/
theorem spWithin_any (n lo hi : Int) (w : World) :
    Calls Tryd.prog 146 #[.int .i64 n, .int .i64 lo, .int .i64 hi] w fun e w' => e = .returned (.bool (inB n lo hi)) ∧ w = w' := by
  go_enter Tryd.func146, Tryd.ntmps146
  go_wp2
  all_goals
    go_ret
    refine ⟨?_, rfl⟩
    exact ret_bool (by rw [Bool.eq_iff_iff]; simp [inB, *]; try omega)
def okSpan (l h : Int) : Bool := inB l (-1000000) h && decide (h ≤ 1000000)
set_option maxHeartbeats 400000 in
theorem spValid_any (l h : Int) (w : World) :
    Calls Tryd.prog 167 #[.agg #[.int .i64 l, .int .i64 h]] w fun e w' => e = .returned (.bool (okSpan l h)) ∧ Below w.heap.size w w' := by
  obtain ⟨r, hr⟩ : ∃ r, inB l (-1000000) h = r := ⟨_, rfl⟩
  have W1 := Lib.hid (fun W => spWithin_any l (-1000000) h W)
  unfold okSpan
  rw [hr] at W1 ⊢
  clear hr
  cases r
  all_goals
    go_enter Tryd.func167, Tryd.ntmps167
    go_wp2_with (go_at_call 146; refine (W1.out _).mono ?_; rintro e w' ⟨rfl, rfl⟩)
  · go_ret
    exact ⟨rfl, (Below.refl _ _).alloc (Nat.le_refl _) _⟩
  all_goals
    go_ret
    exact ⟨ret_bool (by simp [*]), (Below.refl _ _).alloc (Nat.le_refl _) _⟩
set_option maxHeartbeats 400000 in
theorem spBad_any (x : SpanR) (w : World) :
    Calls Tryd.prog 166 (#[val_span x] ++ #[]) w fun e w' => e = .returned (.bool (!okSpan x.low x.high)) ∧ Below w.heap.size w w' := by
  obtain ⟨l, h⟩ := x
  simp only [val_span, Array.append_empty]
  have V := Lib.hid (fun W => spValid_any l h W)
  generalize okSpan l h = r at V ⊢
  go_enter Tryd.func166, Tryd.ntmps166
  go_wp2_with (go_at_call 167; refine (V.out _).mono ?_; rintro e w' ⟨rfl, hb⟩)
  go_ret
  exact ⟨rfl, ((Below.refl _ _).alloc (Nat.le_refl _) _).trans (hb.mono (by rw [World.size_alloc]; omega))⟩
set_option maxHeartbeats 400000 in
theorem spanned_any (l h : Int) (a : Option Addr) (c : Nat) (w : World) (hR : Rd encSpan 2 w w.heap.size a 1 [⟨l, h⟩]) :
    Calls Tryd.prog 147 #[.slice a 1 c] w fun e w' => e = .returned (.int .i64 (if okSpan l h then 0 else 10)) ∧ Below w.heap.size w w' := by
  have eg := enters_of (P := Tryd.prog) Tryd.func166 (by kernel_rfl) rfl
  have C := Lib.hid (contains_span [⟨l, h⟩] (fun x => !okSpan x.low x.high) 166 #[] eg a 1 c w _ (Nat.le_refl _) hR (fun j _ W _ => spBad_any _ W))
  simp only [List.any_cons, List.any_nil, Bool.or_false] at C
  generalize okSpan l h = r at C ⊢
  clear hR eg
  cases r
  all_goals
    go_enter Tryd.func147, Tryd.ntmps147
    go_wp2_with (go_at_call 165; refine C.out.mono ?_; rintro e w' ⟨rfl, hb⟩)
    go_ret
    exact ⟨rfl, hb⟩
set_option maxHeartbeats 400000 in
theorem spCheck_any (l h : Int) (a : Option Addr) (c : Nat) (w : World) (hR : Rd encSpan 2 w w.heap.size a 1 [⟨l, h⟩]) :
    Calls Tryd.prog 124 #[.slice a 1 c] w fun e w' => e = .returned (.int .i64 (if okSpan l h then 0 else 10)) ∧ Below w.heap.size w w' := by
  have S := Lib.hid (spanned_any l h a c w hR)
  have W1 : Hid (∀ W, Calls Tryd.prog 146 #[.int .i64 1, .int .i64 1, .int .i64 3] W fun e w' => e = .returned (.bool true) ∧ W = w') := fun W => (spWithin_any 1 1 3 W).mono fun _ _ h => ⟨h.1, h.2⟩
  generalize okSpan l h = r at S ⊢
  clear hR
  cases r
  all_goals
   go_enter Tryd.func124, Tryd.ntmps124
   go_wp2_with (first
    | (go_at_call 146; refine (W1.out _).mono ?_; rintro e w' ⟨rfl, rfl⟩)
    | (go_at_call 147; refine S.out.mono ?_; rintro e w' ⟨rfl, hb⟩))
   go_ret
   exact ⟨rfl, hb⟩
/-- The check of a page, as covered makes it: on a box of its own. -/
theorem page_check (l h : Int) (wr : World) : Hid (∀ W, W = (wr.alloc (.cells #[.int .i64 l, .int .i64 h] 91)).alloc (.cells #[.int .i64 l, .int .i64 h] 91) →
    Calls Tryd.prog 124 #[.slice (some ⟨wr.heap.size + 1, 0, none⟩) 1 1] W fun e w' => e = .returned (.int .i64 (if okSpan l h then 0 else 10)) ∧ w'.cell? ⟨wr.heap.size, 0, none⟩ = some (.int .i64 l) ∧ w'.cell? ⟨wr.heap.size, 1, none⟩ = some (.int .i64 h) ∧ wr.heap.size < w'.heap.size ∧ Below wr.heap.size wr w') := by
  intro W hW
  subst hW
  have hz : (wr.alloc (.cells #[.int .i64 l, .int .i64 h] 91)).heap.size = wr.heap.size + 1 := World.size_alloc _ _
  have hb := heap_alloc_new (wr.alloc (.cells #[.int .i64 l, .int .i64 h] 91)) (.cells #[.int .i64 l, .int .i64 h] 91)
  rw [hz] at hb
  have rd : Rd encSpan 2 ((wr.alloc (.cells #[.int .i64 l, .int .i64 h] 91)).alloc (.cells #[.int .i64 l, .int .i64 h] 91)) ((wr.alloc (.cells #[.int .i64 l, .int .i64 h] 91)).alloc (.cells #[.int .i64 l, .int .i64 h] 91)).heap.size (some ⟨wr.heap.size + 1, 0, none⟩) 1 [⟨l, h⟩] :=
    rd_block (enc := encSpan) (k := 2) (xs := [⟨l, h⟩]) (cs := #[.int .i64 l, .int .i64 h]) (b := wr.heap.size + 1) (fun _ => rfl) hb rfl (by rw [World.size_alloc, hz]; omega) 1 rfl (by omega)
  refine (spCheck_any l h _ 1 _ rd).mono ?_
  rintro e w' ⟨h1, h2⟩
  have h0 : w'.heap[wr.heap.size]? = some (.cells #[.int .i64 l, .int .i64 h] 91 (0, 0)) :=
    (h2.block _ (by rw [World.size_alloc, hz]; omega)).trans ((Below.heap_alloc _ _ _ (by rw [hz]; omega)).trans (heap_alloc_new wr _))
  exact ⟨h1, by simp [World.cell?, h0], by simp [World.cell?, h0], (Array.getElem?_eq_some_iff.1 h0).1, (((Below.refl _ wr).alloc (Nat.le_refl _) _).alloc (by rw [hz]; omega) _).trans (h2.mono (by rw [World.size_alloc, hz]; omega))⟩
end Go.Proofs.YtchnhjffpldpiaaDoor
