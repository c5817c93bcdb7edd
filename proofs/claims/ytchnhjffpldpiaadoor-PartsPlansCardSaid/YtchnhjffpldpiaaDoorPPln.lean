/- parts.Plan's search: how it lies in memory. -/
import Derived.Test.YtchnhjffpldpiaaDoorRPln3
import Derived.WalkSmall
namespace Go.Proofs.YtchnhjffpldpiaaDoor
open Go Go.RowKit

/-- The best list so far, in the planner. -/
def BestV (W : World) (B : Nat) (sv nv bv : Value) (ch : Int) : Option (List Int × Int) → Prop
  | none => bv = .slice none 0 0
  | some (b, c) => ch = c ∧ ∃ g cap, bv = .slice (some ⟨g, 0, none⟩) b.length cap ∧ W.ownsRow B 3 1 bv b.length (b.map (Value.int .i64)) ∧ sv.ownBlock ≠ some g ∧ nv.ownBlock ≠ some g
structure PlM (W : World) (B pb : Nat) (fv sv nv : Value) (spares now : List Int) (st : Option (List Int × Int)) : Prop where
  best : ∃ bv ch, W.heap[pb]? = some (.cells #[fv, bv, .int .i64 ch] 147 (0, 0)) ∧ BestV W B sv nv bv ch st
  s : OwnI 3 W B sv spares
  n : W.ownsRow B 3 1 nv now.length (now.map (Value.int .i64))
  ne : ∀ g, sv.ownBlock = some g → nv.ownBlock ≠ some g
  pbB : B ≤ pb

variable {W W' : World} {B pb : Nat} {fv sv nv nv' bv : Value} {spares now : List Int} {st : Option (List Int × Int)} {ch : Int}

theorem PlM.pbl (h : PlM W B pb fv sv nv spares now st) : pb < W.heap.size := by
  obtain ⟨bv, ch, h1, _⟩ := h.best
  exact (Array.getElem?_eq_some_iff.1 h1).1
/-- The planner's block is another than those of lists. -/
theorem PlM.pbs (h : PlM W B pb fv sv nv spares now st) : sv.ownBlock ≠ some pb ∧ nv.ownBlock ≠ some pb := by
  obtain ⟨bv, ch, h1, _⟩ := h.best
  constructor
  · intro e
    rcases h.s with ⟨h2, _⟩ | ⟨g, off, cap, cur, h2, _, h3, _⟩
    · rw [h2] at e; cases e
    · rw [h2] at e; cases e
      rw [h1] at h3; cases h3
  · intro e
    rcases h.n.2 with ⟨h2, _⟩ | ⟨g, cap, cur, h2, _, h3, _⟩
    · rw [h2] at e; cases e
    · rw [h2] at e; cases e
      rw [h1] at h3; cases h3
theorem BestV.kept (h : BestV W B sv nv bv ch st) {row : Option Nat} (hg : W.grownBy W' row) (hr : row = none ∨ row = sv.ownBlock ∨ row = nv.ownBlock) (hb : ∀ g, bv.ownBlock = some g → row ≠ some g) : BestV W' B sv nv bv ch st := by
  have _ := hr
  match st, h with
  | none, h => exact h
  | some (b, c), ⟨h1, g, cap, e2, h3, h4, h5⟩ =>
    exact ⟨h1, g, cap, e2, h3.kept hg (.inr fun e => hb g (by rw [e2]; rfl) (by rw [← e, e2]; rfl)), h4, h5⟩
theorem PlM.alloc (h : PlM W B pb fv sv nv spares now st) (o : Obj) : PlM (W.alloc o) B pb fv sv nv spares now st := by
  obtain ⟨bv, ch, h1, h2⟩ := h.best
  refine ⟨⟨bv, ch, (Below.heap_alloc _ _ _ h.pbl).trans h1, h2.kept (World.grownBy_alloc W o none) (.inl rfl) (fun g _ e => by cases e)⟩, h.s.below ((Below.refl _ _).alloc (Nat.le_refl _) _), h.n.alloc o, h.ne, h.pbB⟩
theorem PlM.drew (h : PlM W B pb fv sv nv spares now st) : PlM W.drew B pb fv sv nv spares now st := by
  obtain ⟨bv, ch, h1, h2⟩ := h.best
  refine ⟨⟨bv, ch, h1, ?_⟩, h.s, h.n, h.ne, h.pbB⟩
  match st, h2 with
  | none, h2 => exact h2
  | some (b, c), h2 => exact h2
/-- A store into the spares. -/
theorem PlM.setS {g off n cap : Nat} (h : PlM W B pb fv (.slice (some ⟨g, off, none⟩) n cap) nv spares now st) (j : Nat) (hj : j < spares.length) (x : Int) :
    PlM (W.setCell ⟨g, off + j, none⟩ (.int .i64 x)) B pb fv (.slice (some ⟨g, off, none⟩) n cap) nv (spares.set j x) now st := by
  obtain ⟨bv, ch, h1, h2⟩ := h.best
  have hg : W.grownBy (W.setCell ⟨g, off + j, none⟩ (.int .i64 x)) (some g) :=
    ⟨rfl, rfl, rfl, by simp, fun k _ hk => Below.heap_setCell _ _ _ _ (fun e => hk (by rw [e]))⟩
  refine ⟨⟨bv, ch, (hg.block pb h.pbl (fun e => h.pbs.1 e.symm)).trans h1, h2.kept hg (.inr (.inl rfl)) (fun k hk e => ?_)⟩, h.s.set j hj x, h.n.kept hg ?_, h.ne, h.pbB⟩
  · match st, h2 with
    | none, h2 => rw [show bv = _ from h2] at hk; cases hk
    | some (b, c), ⟨_, g', cap', e2, _, h4, _⟩ =>
      rw [e2] at hk; cases hk; exact h4 e
  · cases hv : nv.ownBlock with
    | none => exact .inl rfl
    | some g' => exact .inr fun e => h.ne g rfl (by rw [hv, e])
/-- One more part in the list of parts so far. -/
theorem PlM.push {g n cap : Nat} {i : Int} (h : PlM W B pb fv sv (.slice (some ⟨g, 0, none⟩) n cap) spares now st) (hg : W.grownBy W' (some g)) (ho : W'.ownsRow B 3 1 (.slice (some ⟨g, 0, none⟩) (n + 1) cap) (n + 1) (now.map (Value.int .i64) ++ [.int .i64 i])) (hn : n = now.length) :
    PlM W' B pb fv sv (.slice (some ⟨g, 0, none⟩) (n + 1) cap) spares (now ++ [i]) st := by
  obtain ⟨bv, ch, h1, h2⟩ := h.best
  subst hn
  refine ⟨⟨bv, ch, (hg.block pb h.pbl (fun e => h.pbs.2 e.symm)).trans h1, ?_⟩, h.s.kept (fun k hk => hg.block k (h.s.own hk).2 (fun e => h.ne k hk e.symm)), by simpa using ho, h.ne, h.pbB⟩
  match st, h2 with
  | none, h2 => exact h2
  | some (b, c), ⟨q1, g', cap', e2, q3, q4, q5⟩ =>
    exact ⟨q1, g', cap', e2, q3.kept hg (.inr fun e => q5 (by rw [e2] at e; exact e.symm)), q4, q5⟩
/-- One fewer. -/
theorem PlM.pop {g n cap : Nat} {i : Int} (h : PlM W B pb fv sv (.slice (some ⟨g, 0, none⟩) (n + 1) cap) spares (now ++ [i]) st) (hn : n = now.length) :
    PlM W B pb fv sv (.slice (some ⟨g, 0, none⟩) n cap) spares now st := by
  subst hn
  have h2 := h.n
  rw [List.length_append, List.length_singleton, List.map_append, List.map_singleton] at h2
  exact ⟨h.best, h.s, ownsRow_pop (by simp) h2, h.ne, h.pbB⟩
theorem PlM.row {n : Nat} (h : PlM W B pb fv sv nv spares now st) (hn : now.length = n) : W.ownsRow B 3 1 nv n (now.map (Value.int .i64)) := by subst hn; exact h.n
theorem row_some0 {base : Nat} {e : TypeId} {size n : Nat} {v : Value} {xs : List Value} (h : W.ownsRow base e size v n xs) (hne : ¬ v = .slice none 0 0) : ∃ g cap, v = .slice (some ⟨g, 0, none⟩) n cap ∧ base ≤ g ∧ g < W.heap.size := by
  rcases h.2 with ⟨h1, _⟩ | ⟨g, cap, cur, h1, h2, h3, _⟩
  · exact absurd h1 hne
  · exact ⟨g, cap, h1, h2, (Array.getElem?_eq_some_iff.1 h3).1⟩
theorem heap_set3 {b : Nat} {x y z : Value} {T : TypeId} (h : W.heap[b]? = some (.cells #[x, y, z] T (0, 0))) (u v : Value) :
    ((W.setCell ⟨b, 1, none⟩ u).setCell ⟨b, 2, none⟩ v).heap[b]? = some (.cells #[x, u, v] T (0, 0)) := by
  have h1 := heap_set (c := [x, y, z]) h 1 u
  exact heap_set h1 2 v
/-- A new best list. -/
theorem PlM.store {g cap n : Nat} (h : PlM W B pb fv sv nv spares now st) (hB : B ≤ W.heap.size) (hb : Below W.heap.size W W') (ho : W'.ownsRow W.heap.size 3 1 (.slice (some ⟨g, 0, none⟩) n cap) n (now.map (Value.int .i64))) (hn : now.length = n) (x : Int) :
    PlM ((W'.setCell ⟨pb, 1, none⟩ (.slice (some ⟨g, 0, none⟩) n cap)).setCell ⟨pb, 2, none⟩ (.int .i64 x)) B pb fv sv nv spares now (some (now, x)) ∧ Below B W ((W'.setCell ⟨pb, 1, none⟩ (.slice (some ⟨g, 0, none⟩) n cap)).setCell ⟨pb, 2, none⟩ (.int .i64 x)) := by
  obtain ⟨bv, ch, h1, _⟩ := h.best
  subst hn
  have hpl := h.pbl
  have hg0 := (ho.lt g rfl).1
  have hgp : (Value.slice (some ⟨g, 0, none⟩) now.length cap).ownBlock ≠ some pb := fun e => by
    have e' : g = pb := by simpa [Value.ownBlock] using e
    omega
  have hk : ∀ k, k ≠ pb → ((W'.setCell ⟨pb, 1, none⟩ (.slice (some ⟨g, 0, none⟩) now.length cap)).setCell ⟨pb, 2, none⟩ (.int .i64 x)).heap[k]? = W'.heap[k]? := fun k hk => by
    rw [Below.heap_setCell _ _ _ _ hk, Below.heap_setCell _ _ _ _ hk]
  have own : ∀ {base : Nat} {e : TypeId} {v : Value} {k : Nat} {xs : List Value}, W'.ownsRow base e 1 v k xs → v.ownBlock ≠ some pb → ((W'.setCell ⟨pb, 1, none⟩ (.slice (some ⟨g, 0, none⟩) now.length cap)).setCell ⟨pb, 2, none⟩ (.int .i64 x)).ownsRow base e 1 v k xs := fun h1 h2 =>
    ownsRow_setCell_other (ownsRow_setCell_other h1 h2 _) h2 _
  refine ⟨⟨⟨_, x, heap_set3 ((hb.block _ hpl).trans h1) _ _, rfl, g, cap, rfl, own (row_up ho hB) hgp, fun e => ?_, fun e => ?_⟩, ?_, own (h.n.kept (row := none) ⟨hb.os, hb.tape, hb.output, hb.size, fun k hk _ => hb.block k hk⟩ (by cases nv.ownBlock <;> simp)) h.pbs.2, h.ne, h.pbB⟩, ?_⟩
  · have := (h.s.own e).2; omega
  · have := (h.n.lt g e).2; omega
  · exact (h.s.below hb).kept fun k hk' => hk k (fun e => h.pbs.1 (by rw [← e]; exact hk'))
  · exact ((hb.mono hB).setCell (p := ⟨pb, 1, none⟩) h.pbB _).setCell (p := ⟨pb, 2, none⟩) h.pbB _
end Go.Proofs.YtchnhjffpldpiaaDoor
