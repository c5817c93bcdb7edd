/- A range over a function whose iterator writes cells of its own between two rounds. No program. -/
import Derived.RangeFuncNested
import Derived.RangeFuncBound
import Derived.RangeFuncCalls
import Derived.RangeFuncLeaves
import Derived.RangeFuncBox
namespace Go.Proofs.YtchnhjffpldpiaaDoor
open Go Go.RowKit

/-- The iterator's blocks behind a step of its own: those it had, and what it has laid. -/
def grow (S : Nat → Prop) (A B : World) : Nat → Prop := fun k => S k ∨ (A.heap.size ≤ k ∧ k < B.heap.size)
/-- J abides what the iterator does with its own blocks S. -/
def Minds {β : Type} (J : (Nat → Prop) → β → World → Prop) : Prop :=
  ∀ S s A B row, J S s A → A.grownBy B row → (∀ r, row = some r → S r) → J (grow S A B) s B

/-- An iterator that hands xs to its rounds, each of which goes on; it may keep cells of its own. -/
def SeqMine {α : Type} (F : Fence) (n : Nat) (P : Program) (g : Nat) (lb : Array Value) (encs : α → Array Value) (n₀ : Nat) (xs : List α) (w : World) : Prop :=
  ∀ (l : Nat) (J : (Nat → Prop) → List α → World → Prop) (W : World), Below w.heap.size w W → Minds J →
    (∀ S pre x W1, J S pre W1 → pre ++ [x] <+: xs → YieldAt F (n - 1) P l (encs x) W1 fun e W' =>
      e = .returned (.bool true) ∧ J S (pre ++ [x]) W' ∧ (∀ k, S k → W'.heap[k]? = W1.heap[k]?) ∧ Below n₀ W1 W') →
    J (fun _ => False) [] W →
    CallsIn F n P g (#[.func (.yield l) #[] #[]] ++ lb) W fun e W' => (∃ v, e = .returned v) ∧ ∃ S, J S xs W'

/-- How a round's body is left. -/
def minePost {α : Type} (B n₀ : Nat) (I : (Nat → Prop) → List α → World → Prop) (S : Nat → Prop) (xs : List α) (W : World) : Exit → Act → World → Prop
  | .normal, _, W' => KeepsFrom B W W' ∧ (∀ k, S k → W'.heap[k]? = W.heap[k]?) ∧ Below n₀ W W' ∧ I S xs W'
  | _, _, _ => False

variable {F : Fence} {n : Nat} {P : Program}

theorem wpIn_rangeFunc_mine {α : Type} {g : Operand} {ps : Array Tmp} {assign body : Code} {Q : Exit → Act → World → Prop} {a : Act} {w : World}
    (hro : F.round = none) (h1 : 1 ≤ n) {gf : Nat} {lb : Array Value} (hg : a.eval g = .func (.func gf) #[] lb) (hFg : F.fn gf) (eg : ∀ args w, (callFunc gf args).run P w = .ok (.enter gf args) w)
    {encs : α → Array Value} {n₀ : Nat} {xs : List α} (hseq : SeqMine F (n - 1) P gf lb encs n₀ xs w) (hn : n₀ ≤ w.heap.size) (hps : ∀ x, (encs x).size = ps.size)
    (I : (Nat → Prop) → List α → World → Prop) (hIo : ∀ S, OwnFrom w.heap.size (I S)) (hIm : Minds I) (h0 : I (fun _ => False) [] w)
    (Ax : α → Act → World → Prop) (hAx : ∀ x a', OwnFrom w.heap.size (fun (_ : Unit) W => Ax x a' W))
    (hassign : ∀ (l : Nat) (S : Nat → Prop) (pre : List α) (x : α) (W : World) (K : Act → World → Prop), I S pre W → (∀ k, S k → w.heap.size ≤ k ∧ k < W.heap.size) →
      (∀ a' W', KeepsFrom w.heap.size W W' → (∀ k, S k → W'.heap[k]? = W.heap[k]?) → Below n₀ W W' → I S pre W' → Ax x a' W' → K a' W') →
      assign.wpIn (F.inRound l) (n - 1 - 1) P (Exit.then K (fun _ _ _ => False)) { tmps := (ps.zip (encs x)).foldl (fun t (p, v) => t.setIfInBounds p v) a.tmps, defers := [] } W)
    (hbody : ∀ (l : Nat) (S : Nat → Prop) (pre : List α) (x : α) (a' : Act) (W : World), w.heap.size ≤ l → (∃ r, W.heap[l]? = some (.loop r)) → I S pre W → (∀ k, S k → w.heap.size ≤ k ∧ k < W.heap.size) → Ax x a' W → pre ++ [x] <+: xs →
      body.wpIn (F.inRound l) (n - 1 - 1) P (minePost w.heap.size n₀ I S (pre ++ [x]) W) a' W)
    (hdone : ∀ (D : Nat) (S : Nat → Prop) (W : World), w.heap.size ≤ D → I S xs W → W.heap[D]? = some (.deferred (some [])) → Q .normal { a with defers := { target := .collected D, args := #[] } :: a.defers } W) :
    (Code.rangeFunc g ps assign body).wpIn F n P Q a w := by
  refine wpIn_rangeFunc ?_
  intro fn hfn
  rw [hro]
  obtain ⟨rec, hrec⟩ : ∃ rec : LoopState → Option Code → Loop, rec = fun st pe => { state := st, pending := pe, fn, tmps := a.tmps, params := ps, assign, body, defers := w.heap.size } := ⟨_, rfl⟩
  obtain ⟨W1, hW1⟩ : ∃ W1, (w.alloc (.deferred (some []))).alloc (.loop (rec .ready none)) = W1 := ⟨_, rfl⟩
  have hz1 : W1.heap.size = w.heap.size + 2 := by rw [← hW1, World.size_alloc, World.size_alloc]
  have hL1 : W1.heap[w.heap.size + 1]? = some (.loop (rec .ready none)) := by
    rw [← hW1]; have := World.alloc_heap_new (w.alloc (.deferred (some []))) (.loop (rec .ready none)); rwa [World.size_alloc] at this
  have hK1 : W1.heap[w.heap.size]? = some (.deferred (some [])) := by
    rw [← hW1]; exact (Below.heap_alloc _ _ _ (by simp)).trans (World.alloc_heap_new w _)
  have hI1 : I (fun _ => False) [] W1 := by rw [← hW1]; exact (hIo _).alloc _ ((hIo _).alloc _ h0)
  have hb1 : Below w.heap.size w W1 := by
    rw [← hW1]; exact ((Below.refl _ w).alloc (Nat.le_refl _) _).alloc (by simp) _
  have turn : ∀ {A : World} (o : Obj), w.heap.size + 1 < A.heap.size → Below n₀ A (A.putObj (w.heap.size + 1) o) := fun {A} o hlt =>
    (Below.refl n₀ A).grown (grownBy_putObj' A _ o) (by omega) (fun k e => by cases e; omega)
  refine ⟨w.heap.size + 1, [{ target := .collected w.heap.size, args := #[] }], W1, { target := .fn (.func gf) lb, args := #[.func (.yield (w.heap.size + 1)) #[] #[]] }, W1, gf,
    #[.func (.yield (w.heap.size + 1)) #[] #[]] ++ lb, W1, ?_, ?_, ?_, ?_, fun _ => h1, ?_⟩
  · rw [← hW1, hrec]; exact run_enterLoop_outer _ _ _ _ _
  · simp only [resolve, hg]
    simp [go_sem]
  · intro f' hf'; simp [Target.leads] at hf'; subst hf'; exact hFg
  · simp [invoke, go_sem, eg]
  · refine (hseq (w.heap.size + 1)
      (fun S pre W => I S pre W ∧ (∀ k, S k → w.heap.size + 2 ≤ k ∧ k < W.heap.size) ∧ w.heap.size + 2 ≤ W.heap.size ∧ W.heap[w.heap.size + 1]? = some (.loop (rec .ready none)) ∧ W.heap[w.heap.size]? = some (.deferred (some [])))
      W1 hb1
      (fun S s A B row hs hg' hr => by
        obtain ⟨h1, h2, h3, h4, h5⟩ := hs
        have hz := hg'.size
        refine ⟨hIm S s A B row h1 hg' hr, fun k hk => ?_, by omega, (hg'.block _ (by omega) ?_).trans h4, (hg'.block _ (by omega) ?_).trans h5⟩
        · rcases hk with h | ⟨h, h'⟩
          · have := h2 k h; omega
          · omega
        · intro e; have := h2 _ (hr _ e.symm); omega
        · intro e; have := h2 _ (hr _ e.symm); omega)
      ?_ ⟨hI1, fun _ h => h.elim, by omega, hL1, hK1⟩).mono ?_
    · -- one round
      rintro S pre x W ⟨hi, hS, hz, hl, hk⟩ hlen
      have hy := run_yield (P := P) (args := encs x) hl (by rw [hrec]; exact hps x)
      rw [hrec] at hy
      refine ⟨fn, _, assign, body, hy, roundIn_of_wpIn hfn (hassign _ S pre x W _ hi (fun k h => by have := hS k h; omega) ?_)⟩
      clear hy
      intro a' W2 kf2 ks2 kb2 hi2 hax
      have hz2 := kf2.size
      have hl2 := kf2.same _ _ (by omega) hl rfl
      have hk2 := kf2.same _ _ (Nat.le_refl _) hk rfl
      refine ⟨_, run_beginRound hl2 (by rw [hrec]), ?_⟩
      obtain ⟨W3, hW3⟩ : ∃ W3, W2.putObj (w.heap.size + 1) (.loop { rec .ready none with state := .busy }) = W3 := ⟨_, rfl⟩
      rw [hW3]
      have hz3 : W3.heap.size = W2.heap.size := by rw [← hW3]; simp
      have hl3 : W3.heap[w.heap.size + 1]? = some (.loop { rec .ready none with state := .busy }) := by rw [← hW3]; exact World.putObj_heap_same (by omega)
      have hk3 : W3.heap[w.heap.size]? = some (.deferred (some [])) := by rw [← hW3]; exact (World.putObj_heap_other (by omega)).trans hk2
      have hi3 : I S pre W3 := by rw [← hW3]; exact (hIo S).putObj _ hi2 (by omega) hl2 rfl
      have hax3 : Ax x a' W3 := by rw [← hW3]; exact (hAx x a').putObj (s := ()) _ hax (by omega) hl2 rfl
      have ks3 : ∀ k, S k → W3.heap[k]? = W.heap[k]? := fun k h => by
        rw [← hW3, World.putObj_heap_other (by have := hS k h; omega)]; exact ks2 k h
      have kb3 : Below n₀ W W3 := by rw [← hW3]; exact kb2.trans (turn _ (by omega))
      refine wpIn_mono (hbody _ S pre x a' W3 (by omega) ⟨_, hl3⟩ hi3 (fun k h => by have := hS k h; omega) hax3 hlen) ?_
      rintro e a3 W4 hp
      cases e with
      | normal =>
        obtain ⟨kf4, ks4, kb4, hi4⟩ := hp
        have hz4 := kf4.size
        have hl4 := kf4.same _ _ (by omega) hl3 rfl
        have hk4 := kf4.same _ _ (Nat.le_refl _) hk3 rfl
        have he := run_endRound (P := P) none hl4
        refine ⟨_, _, he, rfl, ⟨(hIo S).putObj _ hi4 (by omega) hl4 rfl, fun k h => ?_, ?_, ?_, (World.putObj_heap_other (by omega)).trans hk4⟩, fun k h => ?_, (kb3.trans kb4).trans (turn _ (by omega))⟩
        · have := hS k h; rw [World.putObj_size]; omega
        · rw [World.putObj_size]; omega
        · rw [World.putObj_heap_same (by omega), hrec]; rfl
        · rw [World.putObj_heap_other (by have := hS k h; omega), ks4 k h, ks3 k h]
      | _ => exact hp.elim
    · -- behind the iterator
      rintro e W2 ⟨⟨v, rfl⟩, S, hi, hS, hz, hl, hk⟩
      exact ⟨none, _, by have := run_endLoop (P := P) hl (by rw [hrec]; simp); rw [hrec] at this; exact this, hdone _ S _ (Nat.le_refl _) ((hIo S).putObj _ hi (by omega) hl rfl) ((World.putObj_heap_other (by omega)).trans hk)⟩

end Go.Proofs.YtchnhjffpldpiaaDoor
