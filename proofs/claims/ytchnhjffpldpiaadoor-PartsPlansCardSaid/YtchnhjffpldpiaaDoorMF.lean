/- Del, RF, HeadIn, Iter, Cyc, Same, Ex, Works. -/
import Derived.Test.YtchnhjffpldpiaaDoorShelf
import Derived.Test.YtchnhjffpldpiaaDoorMB
import Derived.RangeFuncNested
import Derived.RangeFuncBound
import Derived.RangeFuncCalls
import Derived.RangeFuncLeaves
import Derived.RangeFuncBox
import Derived.Sort.QuietIn
import Derived.StillTail
import Derived.OrdersIn
import Derived.Shelf.Abstract
import Derived.Shelf.RegionOpen
import Derived.WalkKit
import Derived.OwnWalkIn
import Derived.TacticsInMore
import Derived.LoopNIn
import Derived.LoopIn
import Derived.Sort.LoopGhostIn
import Derived.Sort.CutIn
import Derived.Test.YtchnhjffpldpiaaDoorMA
import Derived.Test.YtchnhjffpldpiaaDoorME
/- slices.Delete on a pile that a call owns. -/
namespace Go.Proofs.YtchnhjffpldpiaaDoor
open Go Go.RowKit Go.Sort

variable {E : TypeId} {w : World} {B : Nat} {xs : List Int} {g off n cap : Nat}

theorem heap_mapBlock {b : Nat} {c : List Value} {T : TypeId} {f : Nat × Nat} (h : w.heap[b]? = some (.cells c.toArray T f)) (F : Array Value → Array Value) :
    (mapBlock w b F).heap[b]? = some (.cells (F c.toArray) T f) := by
  simp [mapBlock, Array.getElem?_modify, h, onCells]
theorem heap_mapBlock_other {b k : Nat} (h : k ≠ b) (F : Array Value → Array Value) : (mapBlock w b F).heap[k]? = w.heap[k]? := by
  simp only [mapBlock, Array.getElem?_modify]
  rw [if_neg (fun e => h e.symm)]
theorem size_mapBlock (b : Nat) (F : Array Value → Array Value) : (mapBlock w b F).heap.size = w.heap.size := by simp [mapBlock]

theorem OwnI.holds (h : OwnI E w B (.slice (some ⟨g, off, none⟩) n cap) xs) : Holds (Value.int .i64) w g off xs.toArray := by
  obtain ⟨cur, e, h2, h3, h4, h5, h6, h7, h8⟩ := h.at
  intro j hj
  have hj : j < xs.length := by simpa using hj
  refine ⟨?_, by simp [World.frozen?, h3]⟩
  have e : xs.toArray[j]! = xs[j]! := by rw [getElem!_pos xs.toArray j (by simpa using hj), getElem!_pos xs j hj]; simp
  rw [e]
  simp [World.cell?, h3, h8 j hj]

/-- The first m of the elements behind a rewriting of all of them. -/
theorem OwnI.put (h : OwnI E w B (.slice (some ⟨g, off, none⟩) n cap) xs) (d : List Int) (hd : d.length = xs.length) (m q : Nat) (hm0 : 0 < m) (hm : m ≤ d.length) :
    OwnI E (putRow (Value.int .i64) (Sort.ahead w q) g off d.toArray) B (.slice (some ⟨g, off, none⟩) m cap) (d.take m) := by
  obtain ⟨cur, e, h2, h3, h4, h5, h6, h7, h8⟩ := h.at
  have h3' : (Sort.ahead w q).heap[g]? = some (.cells cur.toArray E (0, 0)) := h3
  refine .inr ⟨g, off, cap, (putCells (Value.int .i64) off d.toArray cur.toArray).toList, by rw [List.length_take, Nat.min_eq_left hm], h2, ?_, by rw [List.length_take]; omega, by rw [List.length_take]; omega, ?_, h7, fun j hj => ?_⟩
  · have := heap_mapBlock h3' (putCells (Value.int .i64) off d.toArray)
    simpa [putRow] using this
  · rw [Array.length_toList]; unfold putCells; simpa using h6
  · have hj : j < m := by rw [List.length_take] at hj; omega
    rw [Array.getElem?_toList]
    unfold putCells
    rw [Array.getElem?_mapIdx]
    have hlt : off + j < cur.toArray.size := by simp; omega
    rw [Array.getElem?_eq_getElem hlt, Option.map_some, if_pos ⟨by omega, by simp; omega⟩, show off + j - off = j by omega]
    congr 2
    rw [getElem!_pos d.toArray j (by simp; omega), getElem!_pos (d.take m) j (by rw [List.length_take]; omega)]
    simp

theorem grown_put (d : Array Int) (q : Nat) : w.grownBy (putRow (Value.int .i64) (Sort.ahead w q) g off d) (some g) :=
  ⟨rfl, rfl, rfl, by show _ ≤ (mapBlock _ _ _).heap.size; rw [size_mapBlock]; exact Nat.le_refl _, fun k _ hne => heap_mapBlock_other (w := Sort.ahead w q) (fun e => hne (by rw [e])) _⟩

/-- The two elements ahead of the last but one .. deleted: the pile of q + 4 elements is cut to q + 2. -/
theorem delete_any (h : OwnI 3 w B (.slice (some ⟨g, off, none⟩) n cap) xs) (q : Nat) (hq : xs.length = q + 4) :
    Calls Tryd.prog 116 #[.slice (some ⟨g, off, none⟩) (q + 4) cap, .int .i64 ((q + 1 : Nat) : Int), .int .i64 ((q + 3 : Nat) : Int)] w fun e w' =>
      e = .returned (.slice (some ⟨g, off, none⟩) (q + 2) cap) ∧ OwnI 3 w' B (.slice (some ⟨g, off, none⟩) (q + 2) cap) (xs.take (q + 1) ++ [xs[q + 3]!]) ∧ w.grownBy w' (some g) := by
  obtain ⟨cur, e, h2, h3, h4, h5, h6, h7, h8⟩ := h.at
  have := Tryd.slices_Delete_int g off cap (q + 1) (q + 3) xs w h.holds h5 (by simp only [maxLen] at h7; omega) (by omega) (by omega)
  rw [hq] at this
  refine this.mono ?_
  rintro e' w' ⟨he, p, rfl⟩
  rw [show q + 4 - (q + 3 - (q + 1)) = q + 2 by omega] at he
  have hdr : xs.drop (q + 3) = [xs[q + 3]!] := by
    rw [List.drop_eq_getElem_cons (by omega), List.drop_eq_nil_of_le (by omega), getElem!_pos xs (q + 3) (by omega)]
  have ht : (xs.take (q + 1) ++ xs.drop (q + 3) ++ List.replicate (q + 3 - (q + 1)) (0 : Int)).take (q + 2) = xs.take (q + 1) ++ [xs[q + 3]!] := by
    rw [hdr]
    refine List.take_left' ?_
    simp; omega
  refine ⟨he, ?_, grown_put _ p⟩
  have := h.put (xs.take (q + 1) ++ xs.drop (q + 3) ++ List.replicate (q + 3 - (q + 1)) (0 : Int)) (by simp; omega) (q + 2) p (by omega) (by simp; omega)
  rwa [ht] at this
end Go.Proofs.YtchnhjffpldpiaaDoor

/- A range over a function whose iterator writes cells of its own between two rounds. No program. -/
namespace Go.Proofs.YtchnhjffpldpiaaDoor
open Go Go.RowKit

/-- The iterator's blocks behind a step of its own: those it had, and what it has laid. -/
def grow (S : Nat → Prop) (A B : World) : Nat → Prop := fun k => S k ∨ (A.heap.size ≤ k ∧ k < B.heap.size)
/-- J abides what the iterator does with its own blocks S. -/
def Minds {β : Type} (J : (Nat → Prop) → β → World → Prop) : Prop :=
  ∀ S s A B row, J S s A → A.grownBy B row → (∀ r, row = some r → S r) → J (grow S A B) s B

/-- An iterator that hands xs to its rounds, each of which goes on; it may keep cells of its own. -/
def SeqMine {α : Type} (F : Fence) (n : Nat) (P : Program) (g : Nat) (lb : Array Value) (encs : α → Array Value) (n₀ : Nat) (xs : List α) (w : World) : Prop :=
  ∀ (l : Nat) (J : (Nat → Prop) → List α → World → Prop) (W : World), Below w.heap.size w W → Minds J →
    (∀ S pre x W1, J S pre W1 → pre ++ [x] <+: xs → YieldAt F (n - 1) P l (encs x) W1 fun e W' =>
      e = .returned (.bool true) ∧ J S (pre ++ [x]) W' ∧ (∀ k, S k → W'.heap[k]? = W1.heap[k]?) ∧ Below n₀ W1 W') →
    J (fun _ => False) [] W →
    CallsIn F n P g (#[.func (.yield l) #[] #[]] ++ lb) W fun e W' => (∃ v, e = .returned v) ∧ ∃ S, J S xs W'

/-- How a round's body is left. -/
def minePost {α : Type} (B n₀ : Nat) (I : (Nat → Prop) → List α → World → Prop) (S : Nat → Prop) (xs : List α) (W : World) : Exit → Act → World → Prop
  | .normal, _, W' => KeepsFrom B W W' ∧ (∀ k, S k → W'.heap[k]? = W.heap[k]?) ∧ Below n₀ W W' ∧ I S xs W'
  | _, _, _ => False

variable {F : Fence} {n : Nat} {P : Program}

theorem wpIn_rangeFunc_mine {α : Type} {g : Operand} {ps : Array Tmp} {assign body : Code} {Q : Exit → Act → World → Prop} {a : Act} {w : World}
    (hro : F.round = none) (h1 : 1 ≤ n) {gf : Nat} {lb : Array Value} (hg : a.eval g = .func (.func gf) #[] lb) (hFg : F.fn gf) (eg : ∀ args w, (callFunc gf args).run P w = .ok (.enter gf args) w)
    {encs : α → Array Value} {n₀ : Nat} {xs : List α} (hseq : SeqMine F (n - 1) P gf lb encs n₀ xs w) (hn : n₀ ≤ w.heap.size) (hps : ∀ x, (encs x).size = ps.size)
    (I : (Nat → Prop) → List α → World → Prop) (hIo : ∀ S, OwnFrom w.heap.size (I S)) (hIm : Minds I) (h0 : I (fun _ => False) [] w)
    (Ax : α → Act → World → Prop) (hAx : ∀ x a', OwnFrom w.heap.size (fun (_ : Unit) W => Ax x a' W))
    (hassign : ∀ (l : Nat) (S : Nat → Prop) (pre : List α) (x : α) (W : World) (K : Act → World → Prop), I S pre W → (∀ k, S k → w.heap.size ≤ k ∧ k < W.heap.size) →
      (∀ a' W', KeepsFrom w.heap.size W W' → (∀ k, S k → W'.heap[k]? = W.heap[k]?) → Below n₀ W W' → I S pre W' → Ax x a' W' → K a' W') →
      assign.wpIn (F.inRound l) (n - 1 - 1) P (Exit.then K (fun _ _ _ => False)) { tmps := (ps.zip (encs x)).foldl (fun t (p, v) => t.setIfInBounds p v) a.tmps, defers := [] } W)
    (hbody : ∀ (l : Nat) (S : Nat → Prop) (pre : List α) (x : α) (a' : Act) (W : World), w.heap.size ≤ l → (∃ r, W.heap[l]? = some (.loop r)) → I S pre W → (∀ k, S k → w.heap.size ≤ k ∧ k < W.heap.size) → Ax x a' W → pre ++ [x] <+: xs →
      body.wpIn (F.inRound l) (n - 1 - 1) P (minePost w.heap.size n₀ I S (pre ++ [x]) W) a' W)
    (hdone : ∀ (D : Nat) (S : Nat → Prop) (W : World), w.heap.size ≤ D → I S xs W → W.heap[D]? = some (.deferred (some [])) → Q .normal { a with defers := { target := .collected D, args := #[] } :: a.defers } W) :
    (Code.rangeFunc g ps assign body).wpIn F n P Q a w := by
  refine wpIn_rangeFunc ?_
  intro fn hfn
  rw [hro]
  obtain ⟨rec, hrec⟩ : ∃ rec : LoopState → Option Code → Loop, rec = fun st pe => { state := st, pending := pe, fn, tmps := a.tmps, params := ps, assign, body, defers := w.heap.size } := ⟨_, rfl⟩
  obtain ⟨W1, hW1⟩ : ∃ W1, (w.alloc (.deferred (some []))).alloc (.loop (rec .ready none)) = W1 := ⟨_, rfl⟩
  have hz1 : W1.heap.size = w.heap.size + 2 := by rw [← hW1, World.size_alloc, World.size_alloc]
  have hL1 : W1.heap[w.heap.size + 1]? = some (.loop (rec .ready none)) := by
    rw [← hW1]; have := World.alloc_heap_new (w.alloc (.deferred (some []))) (.loop (rec .ready none)); rwa [World.size_alloc] at this
  have hK1 : W1.heap[w.heap.size]? = some (.deferred (some [])) := by
    rw [← hW1]; exact (Below.heap_alloc _ _ _ (by simp)).trans (World.alloc_heap_new w _)
  have hI1 : I (fun _ => False) [] W1 := by rw [← hW1]; exact (hIo _).alloc _ ((hIo _).alloc _ h0)
  have hb1 : Below w.heap.size w W1 := by
    rw [← hW1]; exact ((Below.refl _ w).alloc (Nat.le_refl _) _).alloc (by simp) _
  have turn : ∀ {A : World} (o : Obj), w.heap.size + 1 < A.heap.size → Below n₀ A (A.putObj (w.heap.size + 1) o) := fun {A} o hlt =>
    (Below.refl n₀ A).grown (grownBy_putObj' A _ o) (by omega) (fun k e => by cases e; omega)
  refine ⟨w.heap.size + 1, [{ target := .collected w.heap.size, args := #[] }], W1, { target := .fn (.func gf) lb, args := #[.func (.yield (w.heap.size + 1)) #[] #[]] }, W1, gf,
    #[.func (.yield (w.heap.size + 1)) #[] #[]] ++ lb, W1, ?_, ?_, ?_, ?_, fun _ => h1, ?_⟩
  · rw [← hW1, hrec]; exact run_enterLoop_outer _ _ _ _ _
  · simp only [resolve, hg]
    simp [go_sem]
  · intro f' hf'; simp [Target.leads] at hf'; subst hf'; exact hFg
  · simp [invoke, go_sem, eg]
  · refine (hseq (w.heap.size + 1)
      (fun S pre W => I S pre W ∧ (∀ k, S k → w.heap.size + 2 ≤ k ∧ k < W.heap.size) ∧ w.heap.size + 2 ≤ W.heap.size ∧ W.heap[w.heap.size + 1]? = some (.loop (rec .ready none)) ∧ W.heap[w.heap.size]? = some (.deferred (some [])))
      W1 hb1
      (fun S s A B row hs hg' hr => by
        obtain ⟨h1, h2, h3, h4, h5⟩ := hs
        have hz := hg'.size
        refine ⟨hIm S s A B row h1 hg' hr, fun k hk => ?_, by omega, (hg'.block _ (by omega) ?_).trans h4, (hg'.block _ (by omega) ?_).trans h5⟩
        · rcases hk with h | ⟨h, h'⟩
          · have := h2 k h; omega
          · omega
        · intro e; have := h2 _ (hr _ e.symm); omega
        · intro e; have := h2 _ (hr _ e.symm); omega)
      ?_ ⟨hI1, fun _ h => h.elim, by omega, hL1, hK1⟩).mono ?_
    · -- one round
      rintro S pre x W ⟨hi, hS, hz, hl, hk⟩ hlen
      have hy := run_yield (P := P) (args := encs x) hl (by rw [hrec]; exact hps x)
      rw [hrec] at hy
      refine ⟨fn, _, assign, body, hy, roundIn_of_wpIn hfn (hassign _ S pre x W _ hi (fun k h => by have := hS k h; omega) ?_)⟩
      clear hy
      intro a' W2 kf2 ks2 kb2 hi2 hax
      have hz2 := kf2.size
      have hl2 := kf2.same _ _ (by omega) hl rfl
      have hk2 := kf2.same _ _ (Nat.le_refl _) hk rfl
      refine ⟨_, run_beginRound hl2 (by rw [hrec]), ?_⟩
      obtain ⟨W3, hW3⟩ : ∃ W3, W2.putObj (w.heap.size + 1) (.loop { rec .ready none with state := .busy }) = W3 := ⟨_, rfl⟩
      rw [hW3]
      have hz3 : W3.heap.size = W2.heap.size := by rw [← hW3]; simp
      have hl3 : W3.heap[w.heap.size + 1]? = some (.loop { rec .ready none with state := .busy }) := by rw [← hW3]; exact World.putObj_heap_same (by omega)
      have hk3 : W3.heap[w.heap.size]? = some (.deferred (some [])) := by rw [← hW3]; exact (World.putObj_heap_other (by omega)).trans hk2
      have hi3 : I S pre W3 := by rw [← hW3]; exact (hIo S).putObj _ hi2 (by omega) hl2 rfl
      have hax3 : Ax x a' W3 := by rw [← hW3]; exact (hAx x a').putObj (s := ()) _ hax (by omega) hl2 rfl
      have ks3 : ∀ k, S k → W3.heap[k]? = W.heap[k]? := fun k h => by
        rw [← hW3, World.putObj_heap_other (by have := hS k h; omega)]; exact ks2 k h
      have kb3 : Below n₀ W W3 := by rw [← hW3]; exact kb2.trans (turn _ (by omega))
      refine wpIn_mono (hbody _ S pre x a' W3 (by omega) ⟨_, hl3⟩ hi3 (fun k h => by have := hS k h; omega) hax3 hlen) ?_
      rintro e a3 W4 hp
      cases e with
      | normal =>
        obtain ⟨kf4, ks4, kb4, hi4⟩ := hp
        have hz4 := kf4.size
        have hl4 := kf4.same _ _ (by omega) hl3 rfl
        have hk4 := kf4.same _ _ (Nat.le_refl _) hk3 rfl
        have he := run_endRound (P := P) none hl4
        refine ⟨_, _, he, rfl, ⟨(hIo S).putObj _ hi4 (by omega) hl4 rfl, fun k h => ?_, ?_, ?_, (World.putObj_heap_other (by omega)).trans hk4⟩, fun k h => ?_, (kb3.trans kb4).trans (turn _ (by omega))⟩
        · have := hS k h; rw [World.putObj_size]; omega
        · rw [World.putObj_size]; omega
        · rw [World.putObj_heap_same (by omega), hrec]; rfl
        · rw [World.putObj_heap_other (by have := hS k h; omega), ks4 k h, ks3 k h]
      | _ => exact hp.elim
    · -- behind the iterator
      rintro e W2 ⟨⟨v, rfl⟩, S, hi, hS, hz, hl, hk⟩
      exact ⟨none, _, by have := run_endLoop (P := P) hl (by rw [hrec]; simp); rw [hrec] at this; exact this, hdone _ S _ (Nat.le_refl _) ((hIo S).putObj _ hi (by omega) hl rfl) ((World.putObj_heap_other (by omega)).trans hk)⟩

end Go.Proofs.YtchnhjffpldpiaaDoor

/- Inside a fence: a region that draws its order, whose first n operations only read (or call what only reads) and are all waited for by the n-th; from the n-th on they come one at a time. No program. -/
namespace Go.Proofs.YtchnhjffpldpiaaDoor
open Go

section
variable {F : Fence} {m : Nat} {P : Program} {ops pops : Array Oper} {Q : Exit → Act → World → Prop} {md : Region.Mode}

def headB (md : Region.Mode) (ops : Array Oper) (n : Nat) : Bool :=
  (Region.sinkB md ops n && Region.chainB md ops n && decide (n < ops.size)) &&
  (List.range n).all fun j => match ops[j]? with
    | none => true
    | some o => (o.after.all fun e => !Region.binds md e || decide (e.on < j)) && (match o.guard with | none => true | some (g, _) => decide (g < n))

/-- Behind the head: the rest, from whatever listing says that the head is listed. -/
def HeadQ (F : Fence) (m : Nat) (P : Program) (md : Region.Mode) (ops : Array Oper) (n : Nat) (Q : Exit → Act → World → Prop) : Exit → Act → World → Prop
  | .normal, a, w => ∀ listed : Array Bool, listed.size = ops.size → (∀ i, i < n → listed.getD i true = true) → (∀ i, n ≤ i → i < ops.size → listed.getD i true = false) → wpAnyIn F m P md ops Q (ops.size - n) listed a w
  | e, a, w => Q e a w

theorem wpAnyIn_more : ∀ (fuel : Nat) (listed : Array Bool) (a : Act) (w : World), wpAnyIn F m P md ops Q fuel listed a w → wpAnyIn F m P md ops Q (fuel + 1) listed a w
  | 0, _, _, _, h => wpAnyIn_done h.1 h.2 1
  | fuel + 1, _, _, _, h => ⟨h.1, fun i hi => wpOpIn_mono (fun a' w' h' => wpAnyIn_more fuel _ a' w' h') (h.2 i hi)⟩
theorem wpAnyIn_more' (c : Nat) {fuel : Nat} {listed : Array Bool} {a : Act} {w : World} (h : wpAnyIn F m P md ops Q fuel listed a w) : wpAnyIn F m P md ops Q (c + fuel) listed a w := by
  induction c with
  | zero => rwa [Nat.zero_add]
  | succ c ih => rw [Nat.succ_add]; exact wpAnyIn_more _ _ _ _ ih

theorem oper_wpIn_headQ {o : Oper} {a : Act} {w : World} {n : Nat} {K K' : Act → World → Prop} (hK : ∀ a w, K a w → K' a w) (hh : o.wpIn F m P a w K (HeadQ F m P md ops n Q)) : o.wpIn F m P a w K' Q := by
  unfold Oper.wpIn at *
  refine ⟨hh.1, ?_⟩
  have hh := hh.2
  generalize (o.semAt F.round a.eval).run P w = r at *
  cases r with
  | ok x w' =>
    cases x <;> simp only [Oper.uponIn] at hh ⊢ <;>
      first
        | exact hK _ _ hh
        | exact ⟨hh.1, CallsIn.mono hh.2 (fun e w'' he => by cases e <;> first | exact hK _ _ he | exact he)⟩
        | exact ⟨hh.1, RowsIn.mono hh.2 (fun _ _ he => hK _ _ he)⟩
        | exact ⟨hh.1, RoundIn.mono hh.2 (fun e w'' he => by cases e <;> first | exact hK _ _ he | exact he)⟩
        | exact hh
  | halt x w' => cases x <;> simp only [Oper.uponIn] at hh ⊢ <;> exact hh

theorem getD_tf {l : Array Bool} {i : Nat} (hi : i < l.size) : l.getD i true = l.getD i false := by
  simp [Array.getD, hi]

theorem wpAnyIn_head {n : Nat} (hB : headB md ops n = true) (hp : ∀ j, j < n → pops[j]? = ops[j]?) (hps : pops.size = n) : ∀ (fuel : Nat) (lp listed : Array Bool) (a : Act) (w : World), HeadInv md ops n listed → lp.size = n → (∀ i, i < n → lp.getD i true = listed.getD i true) →
    wpAnyIn F m P md pops (HeadQ F m P md ops n Q) fuel lp a w → wpAnyIn F m P md ops Q (fuel + (ops.size - n)) listed a w := by
  simp only [headB, Bool.and_eq_true, decide_eq_true_eq] at hB
  obtain ⟨⟨⟨hs, hc⟩, hn⟩, hedge⟩ := hB
  simp only [List.all_eq_true, List.mem_range] at hedge
  have edge : ∀ j o, j < n → ops[j]? = some o → ∀ e ∈ o.after, Region.binds md e = true → e.on < j := by
    intro j o hj ho e he hb
    have := hedge j hj
    rw [ho] at this
    simp only [Bool.and_eq_true] at this
    have h2 := Array.all_eq_true_iff_forall_mem.1 this.1 e he
    simpa [hb] using h2
  have guard : ∀ j o, j < n → ops[j]? = some o → ∀ g b, o.guard = some (g, b) → g < n := by
    intro j o hj ho g b hg
    have := hedge j hj
    rw [ho] at this
    simp only [Bool.and_eq_true, hg] at this
    simpa using this.2
  have pout : ∀ j, n ≤ j → pops[j]? = none := fun j hj => Array.getElem?_eq_none (by omega)
  have hy : ∀ (tmps : Array Value) j, j < n → yielded pops tmps j = yielded ops tmps j := by
    intro tmps j hj
    unfold yielded
    rw [hp j hj]
  have hready : ∀ lp listed : Array Bool, lp.size = n → listed.size = ops.size → (∀ i, i < n → lp.getD i true = listed.getD i true) → ∀ j, j < n → (j ∈ Region.ready md pops lp ↔ j ∈ Region.ready md ops listed) := by
    intro lp listed h1 h1' h2 j hj
    rw [mem_ready, mem_ready, hp j hj, h2 j hj]
    have : ∀ o, ops[j]? = some o → ((∀ e ∈ o.after, Region.binds md e = true → lp.getD e.on false = true) ↔ (∀ e ∈ o.after, Region.binds md e = true → listed.getD e.on false = true)) := by
      intro o ho
      have key : ∀ e ∈ o.after, Region.binds md e = true → lp.getD e.on false = listed.getD e.on false := by
        intro e he hb
        have hlt := edge j o hj ho e he hb
        rw [← getD_tf (by omega), ← getD_tf (by omega)]
        exact h2 _ (by omega)
      exact ⟨fun h e he hb => by rw [← key e he hb]; exact h e he hb, fun h e he hb => by rw [key e he hb]; exact h e he hb⟩
    constructor
    · rintro ⟨a1, o, a2, a3⟩; exact ⟨a1, o, a2, (this o a2).1 a3⟩
    · rintro ⟨a1, o, a2, a3⟩; exact ⟨a1, o, a2, (this o a2).2 a3⟩
  -- where some of the head is not listed something may come up
  have hsome : ∀ listed : Array Bool, listed.size = ops.size → ∀ k j, j ≤ k → j < n → listed.getD j true = false → ∃ i, i < n ∧ i ∈ Region.ready md ops listed := by
    intro listed hsz k
    induction k with
    | zero =>
      intro j hj hjn hu
      have : j = 0 := by omega
      subst this
      obtain ⟨o, ho⟩ : ∃ o, ops[0]? = some o := ⟨_, Array.getElem?_eq_getElem (by omega)⟩
      exact ⟨0, hjn, mem_ready.2 ⟨hu, o, ho, fun e he hb => absurd (edge 0 o hjn ho e he hb) (by omega)⟩⟩
    | succ k ih =>
      intro j hj hjn hu
      by_cases hex : ∃ i, i < j ∧ listed.getD i true = false
      · obtain ⟨i, hi, hu'⟩ := hex
        exact ih i (by omega) (by omega) hu'
      · obtain ⟨o, ho⟩ : ∃ o, ops[j]? = some o := ⟨_, Array.getElem?_eq_getElem (by omega)⟩
        refine ⟨j, hjn, mem_ready.2 ⟨hu, o, ho, fun e he hb => ?_⟩⟩
        have h2 := edge j o hjn ho e he hb
        have h3 : ¬ listed.getD e.on true = false := fun h => hex ⟨e.on, h2, h⟩
        rw [← getD_tf (by omega)]
        simpa using h3
  intro fuel
  induction fuel with
  | zero =>
    intro lp listed a w inv hlp hag h
    by_cases hall : ∃ i, i < n ∧ listed.getD i true = false
    · obtain ⟨i, hi, hu⟩ := hall
      obtain ⟨j, hj, hr⟩ := hsome listed inv.size i i (Nat.le_refl _) hi hu
      have := (hready lp listed hlp inv.size hag j hj).2 hr
      rw [h.1] at this; cases this
    · exact wpAnyIn_more' 0 (h.2 listed inv.size (fun i hi => by
        cases hl : listed.getD i true with
        | true => rfl
        | false => exact absurd ⟨i, hi, hl⟩ hall) inv.tail)
  | succ fuel ih =>
    intro lp listed a w inv hlp hag h
    by_cases hall : ∃ i, i < n ∧ listed.getD i true = false
    · obtain ⟨i, hi, hu⟩ := hall
      obtain ⟨j0, hj0, hr0⟩ := hsome listed inv.size i i (Nat.le_refl _) hi hu
      rw [Nat.succ_add]
      refine ⟨fun h0 => (by rw [h0] at hr0; cases hr0), fun j hj => ?_⟩
      have hjn : j < n := by
        rcases Nat.lt_or_ge j n with h1 | h1
        · exact h1
        · exact absurd hj (tail_waits hs hc hn inv _ i rfl hi hu j h1)
      have h2 := h.2 j ((hready lp listed hlp inv.size hag j hjn).2 hj)
      have hK : ∀ a' w', wpAnyIn F m P md pops (HeadQ F m P md ops n Q) fuel (lp.setIfInBounds j true) a' w' → wpAnyIn F m P md ops Q (fuel + (ops.size - n)) (listed.setIfInBounds j true) a' w' := by
        intro a' w' h'
        refine ih _ _ a' w' (inv.set hj hjn) (by simpa using hlp) (fun i hi => ?_) h'
        by_cases e : j = i
        · subst e
          have e1 : j < lp.size := by omega
          have e2 : j < listed.size := by rw [inv.size]; omega
          simp [Array.getD, e1, e2]
        · rw [getD_set_ne true e, getD_set_ne true e]; exact hag i hi
      obtain ⟨o, ho⟩ : ∃ o, ops[j]? = some o := ⟨_, Array.getElem?_eq_getElem (by omega)⟩
      have hw : Region.wanted o (yielded pops a.tmps) = Region.wanted o (yielded ops a.tmps) := by
        unfold Region.wanted
        cases hg : o.guard with
        | none => rfl
        | some gb =>
          obtain ⟨g, b⟩ := gb
          simp only
          rw [hy a.tmps g (guard j o hjn ho g b hg)]
      unfold wpOpIn at h2 ⊢
      rw [hp j hjn, ho] at h2
      rw [ho]
      simp only [hw] at h2 ⊢
      by_cases hww : Region.wanted o (yielded ops a.tmps) = true
      · rw [if_pos hww] at h2 ⊢
        exact oper_wpIn_headQ hK h2
      · rw [if_neg hww] at h2 ⊢
        exact ⟨h2.1, hK _ _ h2.2⟩
    · have hr : Region.ready md pops lp = [] := by
        refine List.eq_nil_iff_forall_not_mem.2 fun j hj => ?_
        obtain ⟨hu, o, ho, _⟩ := mem_ready.1 hj
        have hjn : j < n := by rw [← hps]; exact (Array.getElem?_eq_some_iff.1 ho).1
        exact hall ⟨j, hjn, by rw [← hag j hjn]; exact hu⟩
      exact wpAnyIn_more' (fuel + 1) (h.1 hr listed inv.size (fun i hi => by
        cases hl : listed.getD i true with
        | true => rfl
        | false => exact absurd ⟨i, hi, hl⟩ hall) inv.tail)

theorem wpIn_region_head {id : Nat} {a : Act} {w : World} {L : List Oper} (n : Nat) (hro : F.round = none) (hm : P.follows .mixedOrders = true) (hB : headB .any L.toArray n = true) (hL : Region.lexB .any (L.take n).toArray = true) (hn : n ≤ L.length)
    (h : wpQuietIn F m P (L.take n).toArray (fun w' => ∃ q, w' = w.drewN q) (fun a' => ∀ w', (∃ q, w' = w.drewN q) → wpAnyIn F m P .any L.toArray Q (L.length - n) (List.replicate n true ++ List.replicate (L.length - n) false).toArray a' w') (L.take n) a) :
    (Code.region id L.toArray true).wpIn F m P Q a w := by
  refine wpIn_region_any hm ?_
  simp only [Region.lexB, Bool.and_eq_true] at hL
  have hlen : (L.take n).length = n := by rw [List.length_take]; omega
  have hq : wpAnyIn F m P .any (L.take n).toArray (HeadQ F m P .any L.toArray n Q) n (Array.replicate n false) a { w with drawn := w.drawn + 1 } := by
    have h1 := wpAnyQIn_lex (F := F) (n := m) (C := fun w' => ∃ q, w' = w.drewN q) (md := .any) hL.1 (L.take n) 0 (Array.replicate n false) a (by intro j; simp) (by have := hL.2; simpa [hlen] using this) h
    rw [hlen] at h1
    refine wpAnyIn_of_quiet hro (fun a' w' hw' hh => ?_) _ _ _ _ ⟨1, rfl⟩ h1
    intro listed hsz ht hf
    have e : listed = (List.replicate n true ++ List.replicate (L.length - n) false).toArray := by
      apply Array.ext
      · simp at hsz ⊢; omega
      · intro i h1 h2
        have hsz' : listed.size = L.length := by simpa using hsz
        by_cases hi : i < n
        · have := ht i hi
          simp only [Array.getD, h1, dif_pos] at this
          have e2 : (List.replicate n true ++ List.replicate (L.length - n) false).toArray[i] = true := by
            simp [List.getElem_append_left, hi]
          rw [e2]; exact this
        · have := hf i (by omega) (by simp; omega)
          simp only [Array.getD, h1, dif_pos] at this
          have e2 : (List.replicate n true ++ List.replicate (L.length - n) false).toArray[i] = false := by
            simp [List.getElem_append_right, Nat.le_of_not_lt hi]
          rw [e2]; exact this
    rw [e]
    exact hh w' hw'
  have := wpAnyIn_head (F := F) (m := m) (P := P) (Q := Q) hB (pops := (L.take n).toArray) (fun j hj => by simp [List.getElem?_take_of_lt hj]) (by simp; omega) n (Array.replicate n false) (Array.replicate L.toArray.size false) a _ ⟨by simp, fun j oj _ h => (by rw [getD_replicate_false] at h; cases h), fun t _ ht => getD_in (by simpa using ht) (getD_replicate_false _ _)⟩ (by simp) (fun i hi => by
      have h1 : (Array.replicate n false).getD i true = false := getD_in (by simpa using hi) (getD_replicate_false _ _)
      have h2 : (Array.replicate L.toArray.size false).getD i true = false := getD_in (by simp; omega) (getD_replicate_false _ _)
      rw [h1, h2]) hq
  have hs : n + (L.toArray.size - n) = L.toArray.size := by simp; omega
  rw [hs] at this
  exact this

/-- The one operation that may come up, and is wanted. -/
theorem wpAnyIn_one {e : Nat} {o : Oper} {fuel : Nat} {listed : Array Bool} {a : Act} {w : World} (hr : Region.ready md ops listed = [e]) (ho : ops[e]? = some o) (hw : Region.wanted o (yielded ops a.tmps) = true)
    (h : ∀ K : Act → World → Prop, (∀ a' w', wpAnyIn F m P md ops Q fuel (listed.setIfInBounds e true) a' w' → K a' w') → o.wpIn F m P a w K Q) : wpAnyIn F m P md ops Q (fuel + 1) listed a w := by
  refine wpAnyIn_all hr (by simp) fun i hi => ?_
  have hi' : i = e := by simpa using hi
  subst hi'
  unfold wpOpIn
  simp only [ho]
  rw [if_pos hw]
  exact h _ fun a' w' h1 => h1
end
end Go.Proofs.YtchnhjffpldpiaaDoor

/- parts.count's iterator. -/
namespace Go.Proofs.YtchnhjffpldpiaaDoor
open Go Go.RowKit Go.Shelf
attribute [local go_sem] Oper.semAt_some

/-- How the iterator's own things lie between two steps: the turning points ts, the pile; J is the caller's. -/
structure It (E : TypeId) (J : (Nat → Prop) → List (Int × Int) → World → Prop) (B : Nat) (S : Nat → Prop) (out : List (Int × Int)) (ts pile : List Int) (vt vp : Value) (W : World) : Prop where
  low : B ≤ W.heap.size
  j : J S out W
  t : OwnI E W B vt ts
  tS : ∀ g, vt.ownBlock = some g → S g
  p : OwnI E W B vp pile
  pS : ∀ g, vp.ownBlock = some g → S g
  ne : ∀ g, vt.ownBlock = some g → vp.ownBlock ≠ some g

variable {E : TypeId} {J : (Nat → Prop) → List (Int × Int) → World → Prop} {B : Nat} {S : Nat → Prop} {out out' : List (Int × Int)} {ts pile pile' : List Int} {vt vp vp' : Value} {W W' : World}

theorem It.turn (h : It E J B S out ts pile vt vp W) (hJ : Minds J) (G : W.grownBy W' vp.ownBlock) (O : OwnI E W' B vp' pile') (hv : vp'.ownBlock = vp.ownBlock ∨ ∀ g, vp'.ownBlock = some g → W.heap.size ≤ g) : ∃ S', It E J B S' out ts pile' vt vp' W' := by
  refine ⟨grow S W W', Nat.le_trans h.low G.size, hJ _ _ _ _ _ h.j G h.pS, h.t.kept fun g hg => G.block g (h.t.own hg).2 (fun e => h.ne g hg e.symm), fun g hg => .inl (h.tS g hg), O, fun g hg => ?_, fun g hg e => ?_⟩
  · rcases hv with hv | hv
    · exact .inl (h.pS g (by rw [← hv]; exact hg))
    · exact .inr ⟨hv g hg, (O.own hg).2⟩
  · rcases hv with hv | hv
    · exact h.ne g hg (by rw [← hv]; exact e)
    · have := hv g e; have := (h.t.own hg).2; omega
theorem It.fresh (h : It E J B S out ts pile vt vp W) (hJ : Minds J) (hb : Below W.heap.size W W') : ∃ S', It E J B S' out ts pile vt vp W' := by
  refine ⟨grow S W W', Nat.le_trans h.low hb.size, hJ _ _ _ _ none h.j ⟨hb.os, hb.tape, hb.output, hb.size, fun k hk _ => hb.block k hk⟩ (fun r e => by cases e), h.t.below hb, fun g hg => .inl (h.tS g hg), h.p.below hb, fun g hg => .inl (h.pS g hg), h.ne⟩
theorem It.told (h : It E J B S out ts pile vt vp W) (hj : J S out' W') (hk : ∀ k, S k → W'.heap[k]? = W.heap[k]?) (hz : W.heap.size ≤ W'.heap.size) : It E J B S out' ts pile vt vp W' :=
  ⟨Nat.le_trans h.low hz, hj, h.t.kept fun g hg => hk g (h.tS g hg), h.tS, h.p.kept fun g hg => hk g (h.pS g hg), h.pS, h.ne⟩

theorem It.cut (h : It E J B S out ts pile vt vp W) (O : OwnI E W B vp' pile') (e : vp'.ownBlock = vp.ownBlock) : It E J B S out ts pile' vt vp' W :=
  ⟨h.low, h.j, h.t, h.tS, O, (fun g hg => h.pS g (by rw [← e]; exact hg)), fun g hg e' => h.ne g hg (by rw [← e]; exact e')⟩

theorem amount_r (a b : Int) (w : World) (ha0 : -1000000 ≤ a) (ha1 : a ≤ 1000000) (hb0 : -1000000 ≤ b) (hb1 : b ≤ 1000000) :
    Calls Tryd.prog 115 #[.int .i64 a, .int .i64 b] w fun e w' => e = .returned (.int .i64 (dist a b)) ∧ w' = w :=
  (amount_any a b w ha0 ha1 hb0 hb1).mono fun _ _ h => ⟨h.1, h.2.symm⟩
theorem delete_q {w : World} {B : Nat} {xs : List Int} {g off n cap : Nat} (h : OwnI 3 w B (.slice (some ⟨g, off, none⟩) n cap) xs) (q : Nat) (hq : xs.length = q + 4) (i j : Int) (hi : i = (q : Int) + 1) (hj : j = (q : Int) + 3) :
    Calls Tryd.prog 116 #[.slice (some ⟨g, off, none⟩) n cap, .int .i64 i, .int .i64 j] w fun e w' =>
      e = .returned (.slice (some ⟨g, off, none⟩) (q + 2) cap) ∧ OwnI 3 w' B (.slice (some ⟨g, off, none⟩) (q + 2) cap) (xs.take (q + 1) ++ [xs[q + 3]!]) ∧ w.grownBy w' (some g) := by
  subst hi hj
  have hn : n = q + 4 := by obtain ⟨_, e, _⟩ := h.at; omega
  subst hn
  exact delete_any h q hq
theorem dist_bd (a b : Int) (ha0 : -1000000 ≤ a) (ha1 : a ≤ 1000000) (hb0 : -1000000 ≤ b) (hb1 : b ≤ 1000000) : 0 ≤ dist a b ∧ dist a b ≤ 2000000 := by
  unfold dist; omega

set_option maxRecDepth 100000 in
set_option maxHeartbeats 4000000 in
theorem count1_mine (n : Nat) (hn : 5 ≤ n) (zs : List Int) (hl : Loads zs) (cb : Nat) (a : Option Addr) (na ca : Nat) (w : World) (B : Nat) (hB : B ≤ w.heap.size) (hR : Rd encInt 1 w B a na zs) (hna : na ≤ 300) (hcl : cb < w.heap.size)
    (hcb : w.cell? ⟨cb, 0, none⟩ = some (.slice a na ca)) (n₀ : Nat) :
    SeqMine Fence.wide n Tryd.prog 113 #[.pointer (some ⟨cb, 0, none⟩)] (fun x : Int × Int => #[Value.int .i64 x.1, Value.int .i64 x.2]) n₀ (cycP zs) w := by
  intro l J W hW hJ hY h0
  have hcW : W.cell? ⟨cb, 0, none⟩ = some (.slice a na ca) := (hW.cell (p := ⟨cb, 0, none⟩) hcl).trans hcb
  have T := Lib.hid (turning_any zs a na ca W B (Nat.le_trans hB hW.size) (hR.below (hW.mono hB)) hna)
  have HY := Lib.hid hY
  have HL := Lib.hid hR.len
  have HJ := Lib.hid hJ
  have H0 := Lib.hid h0
  clear hY hJ h0 hR hcb hW hB
  refine callsIn_of_wp Tryd.func113 rfl trivial ?_ rfl
  simp only [Tryd.ntmps113, List.size_toArray, List.length_cons, List.length_nil, Nat.reduceAdd, Nat.reduceSub, Array.replicate_succ, Array.replicate_zero, List.push_toArray, List.append_toArray, List.nil_append, List.cons_append]
  have f1 : Fence.wide.fn 114 := trivial
  have f2 : Fence.wide.fn 115 := trivial
  have f3 : Fence.wide.fn 116 := trivial
  have n1 : 1 ≤ n := by omega
  gi_wp2_with (gi_at_call 114; refine (callsIn_wide.2 T.out).mono ?_; rintro e W1 ⟨vt, rfl, ht, hb1⟩; obtain ⟨ao, cap, ht1, ht2, ht3, ht4⟩ := ht.view; rw [ht1] at ht ⊢)
  have i0 : Aside (∃ S, It 3 J W.heap.size S [] (turnP zs) [] (.slice ao (turnP zs).length cap) (.slice none 0 0) W1) := by
    have hz := hb1.size
    refine ⟨grow (fun _ => False) W W1, hz, HJ.out _ _ _ _ none H0.out ⟨hb1.os, hb1.tape, hb1.output, hb1.size, fun k hk _ => hb1.block k hk⟩ (fun r e => by cases e), ht, fun g hg => .inr ⟨(ht.own hg).1, (ht.own hg).2⟩, OwnI.nil, (fun g hg => by cases hg), (fun g _ e => by cases e)⟩
  have htl : (turnP zs).length ≤ 300 := by
    have h1 := turnP_len zs
    have h2 := HL.out
    omega
  obtain ⟨ts, hts⟩ : ∃ ts, turnP zs = ts := ⟨_, rfl⟩
  rw [hts] at i0 ht4 htl ⊢
  have HTS := Lib.hid hts
  obtain ⟨m, hm⟩ : ∃ m, ts.length = m := ⟨_, rfl⟩
  rw [hm] at i0 ht4 htl ⊢
  have HM := Lib.hid hm
  clear ht ht1 ht2 ht3 hb1 hts hm T
  gi_loopg [3, 13] m (fun gg s3 s13 wr => ∃ (k : Nat), k ≤ m ∧ m - k ≤ gg ∧ s13 = .int .i64 k ∧ Aside (∃ S, It 3 J W.heap.size S (pileP (ts.take k)).2 ts (pileP (ts.take k)).1 (.slice ao m cap) s3 wr))
  case atStart => exact ⟨0, Nat.zero_le _, by omega, rfl, i0⟩
  case round =>
    obtain ⟨k, hk, hg, rfl, hI⟩ := hrel
    by_cases hlt : k < m
    · have hltz : (k : Int) < (m : Int) := by omega
      obtain ⟨tg, toff, rfl⟩ := ht4 (by omega)
      obtain ⟨S, hi⟩ := hI.out
      have hkt : k < ts.length := by rw [HM.out]; exact hlt
      have ct := hi.t.cells k hkt
      have STP := Lib.hid (pileP_take ts k hkt)
      have hpl : (pileP (ts.take k)).1.length ≤ k := Nat.le_trans (pileP_len _) (List.length_take_le _ _)
      obtain ⟨y, hy⟩ : ∃ y, ts[k]! = y := ⟨_, rfl⟩
      rw [hy] at ct STP
      obtain ⟨pile0, hp0⟩ : ∃ p, (pileP (ts.take k)).1 = p := ⟨_, rfl⟩
      obtain ⟨out0, ho0⟩ : ∃ p, (pileP (ts.take k)).2 = p := ⟨_, rfl⟩
      have STP2 : Aside (pileP (ts.take (k + 1)) = shrink (pile0.length + 1) (pile0 ++ [y]) out0) := by
        rw [STP.out, ← hp0, ← ho0]; rfl
      rw [hp0, ho0] at hi
      rw [hp0] at hpl
      have lds : Loads (pile0 ++ [y]) := by
        intro x hx
        refine hl x (turnP_mem zs x ?_)
        rw [HTS.out]
        rcases List.mem_append.1 hx with h | h
        · rw [← hp0] at h; exact List.mem_of_mem_take (pileP_mem _ _ h)
        · rw [show x = y by simpa using h, ← hy]; exact get_mem _ _ hkt
      have LDS := Lib.hid lds
      have IT := Lib.hid hi
      have HYK := Lib.hid hy
      clear hI hi STP hy hp0 ho0 hkt lds
      obtain ⟨o1, o2, o3⟩ := app_pre (w := wr) (Below.refl _ wr) IT.out.low IT.out.p (Below.refl _ _) y 3
      obtain ⟨c0, hi0, hz0, hz1, hz2⟩ := info_parts info_i
      have hpl2 : pile0.length ≤ 1000000 := by omega
      have PRE : Aside (∀ w1 g2 o2 cap2, (wr.alloc (.cells #[.int .i64 y] 3)).grownBy w1 u3.ownBlock → OwnI 3 w1 W.heap.size (.slice (some ⟨g2, o2, none⟩) (pile0.length + 1) cap2) (pile0 ++ [y]) → (u3.ownBlock = some g2 ∨ (wr.alloc (.cells #[.int .i64 y] 3)).heap.size ≤ g2) →
          ∃ S, It 3 J W.heap.size S out0 ts (pile0 ++ [y]) (.slice (some ⟨tg, toff, none⟩) m cap) (.slice (some ⟨g2, o2, none⟩) (pile0.length + 1) cap2) w1) := by
        intro w1 g2 o2 cap2 G O A
        obtain ⟨S1, h1⟩ := IT.out.fresh HJ.out ((Below.refl wr.heap.size wr).alloc (Nat.le_refl _) (.cells #[.int .i64 y] 3))
        refine h1.turn HJ.out G O ?_
        rcases A with A | A
        · exact .inl A.symm
        · exact .inr fun g e => by cases e; exact A
      have O1 := Lib.hid o1
      have O2 := Lib.hid o2
      have O3 := Lib.hid o3
      have I0 := Lib.hid (And.intro hi0 (And.intro hz0 (And.intro hz1 hz2)))
      clear o1 o2 o3 hi0 hz0 hz1 hz2 IT
      gi_wp2_with (gi_at_builtin; refine wpListIn_append_I _ rfl _ _ 22 rfl c0 Tryd.underlying22 I0.out.1 I0.out.2.1 I0.out.2.2.1 I0.out.2.2.2 u3 pile0 rfl W.heap.size O1.out O2.out _ _ y rfl O3.out hpl2 ?_; intro g2 o2 cap2 w1 h1 h2 h3; have H1 := Lib.hid h1; have H2 := Lib.hid h2; have H3 := Lib.hid h3; clear h1 h2 h3)
      obtain ⟨R, hR⟩ : ∃ R, shrink (pile0.length + 1) (pile0 ++ [y]) out0 = R := ⟨_, rfl⟩
      have i1 : Aside (∃ (S : Nat → Prop) (pile : List Int) (out : List (Int × Int)) (f : Nat), pile.length = pile0.length + 1 ∧ It 3 J W.heap.size S out ts pile (.slice (some ⟨tg, toff, none⟩) m cap) (.slice (some ⟨g2, o2, none⟩) (pile0.length + 1) cap2) w1 ∧ shrink f pile out = R ∧ pile.length ≤ f ∧ Loads pile) := by
        obtain ⟨S1, h1⟩ := PRE.out w1 g2 o2 cap2 H2.out H1.out H3.out
        exact ⟨S1, pile0 ++ [y], out0, pile0.length + 1, by simp, h1, hR, by simp, LDS.out⟩
      rw [hR] at STP2
      clear hR PRE O1 O2 O3 H1 H2 H3
      obtain ⟨w2, rfl⟩ : ∃ w2, w2 = w1 := ⟨_, rfl⟩
      have hpz : (pile0.length : Int) + 1 ≤ 302 := by omega
      generalize hq0 : pile0.length = l0 at i1 hpz hpl hpl2 ⊢
      gi_loopg [3, 6] (l0 + 1) (fun gg s3 s6 wr => ∃ (q g o c : Nat), 0 < q ∧ q ≤ 302 ∧ q ≤ gg ∧ s3 = .slice (some ⟨g, o, none⟩) q c ∧ s6 = .int .i64 q ∧
        Aside (∃ (S : Nat → Prop) (pile : List Int) (out : List (Int × Int)) (f : Nat), pile.length = q ∧ It 3 J W.heap.size S out ts pile (.slice (some ⟨tg, toff, none⟩) m cap) (.slice (some ⟨g, o, none⟩) q c) wr ∧ shrink f pile out = R ∧ pile.length ≤ f ∧ Loads pile))
      case atStart => exact ⟨l0 + 1, g2, o2, cap2, by omega, by omega, by omega, rfl, by go_num, i1⟩
      case round =>
        obtain ⟨q, g, o, c, hq0, hq1, hqg, rfl, rfl, hI⟩ := hrel
        have hq0z : (0 : Int) ≤ (q : Int) := by omega
        have hq1z : (q : Int) ≤ 302 := by omega
        by_cases h3 : q < 3
        · have h3z : decide ((3 : Int) ≤ (q : Int)) = false := by simp; omega
          gi_wp2
          gi_roundg (m - (k + 1))
          case measure => omega
          case rel =>
            obtain ⟨S, pile, out, f, e, it, hs, hf, hld⟩ := hI.out
            have hR : R = (pile, out) := by rw [← hs]; exact shrink_end f pile out (by omega)
            exact ⟨k + 1, by omega, by omega, by go_num, ⟨S, by rw [STP2.out, hR]; exact it⟩⟩
        · obtain ⟨r, rfl⟩ : ∃ r, q = r + 3 := ⟨q - 3, by omega⟩
          obtain ⟨S, pile, out, f, e, it, hs, hf, hld⟩ := hI.out
          clear hI
          have h3z : decide ((3 : Int) ≤ ((r + 3 : Nat) : Int)) = true := by simp; omega
          obtain ⟨f, rfl⟩ : ∃ f', f = f' + 1 := ⟨f - 1, by omega⟩
          have c0 := it.p.cells r (by omega)
          have c1 := it.p.cells (r + 1) (by omega)
          have c2 := it.p.cells (r + 2) (by omega)
          have b0 := hld _ (get_mem pile r (by omega))
          have b1 := hld _ (get_mem pile (r + 1) (by omega))
          have b2 := hld _ (get_mem pile (r + 2) (by omega))
          have SS : Aside (dist pile[r + 2]! pile[r + 1]! < dist pile[r + 1]! pile[r]! → R = (pile, out)) := fun h => by rw [← hs]; exact shrink_stop (f + 1) r pile out e h
          have S1' : Aside (r = 0 → ¬ dist pile[r + 2]! pile[r + 1]! < dist pile[r + 1]! pile[r]! → R = shrink f (pile.drop 1) (out ++ [(dist pile[r + 1]! pile[r]!, 1)])) := fun h0 h => by subst h0; rw [← hs]; exact shrink_one f pile out e h
          have S2 : Aside (∀ t, r = t + 1 → ¬ dist pile[r + 2]! pile[r + 1]! < dist pile[r + 1]! pile[r]! → R = shrink f (pile.take (t + 1) ++ [pile[t + 3]!]) (out ++ [(dist pile[r + 1]! pile[r]!, 2)])) := fun t h0 h => by subst h0; rw [← hs]; exact shrink_two f t pile out e h
          have hd1 := dist_bd _ _ b2.1 b2.2 b1.1 b1.2
          have hd2 := dist_bd _ _ b1.1 b1.2 b0.1 b0.2
          have HE := Lib.hid (And.intro e (And.intro hf hld))
          have IT := Lib.hid it
          have hgl : g < wr.heap.size := (it.p.own rfl).2
          clear e hs hf hld it
          generalize pile[r]! = a0 at c0 b0 SS S1' S2 hd2
          generalize pile[r + 1]! = a1 at c1 b1 SS S1' S2 hd1 hd2
          generalize pile[r + 2]! = a2 at c2 b2 SS S1' S2 hd1
          obtain ⟨b01, b02⟩ := b0
          obtain ⟨b11, b12⟩ := b1
          obtain ⟨b21, b22⟩ := b2
          have hr0 : (0 : Int) ≤ (r : Int) := by omega
          have hr1 : (r : Int) + 3 ≤ 302 := by omega
          by_cases hxz : dist a2 a1 < dist a1 a0
          · have hR := SS.out hxz
            clear S1' S2 SS
            have hxb : decide (dist a2 a1 < dist a1 a0) = true := by simpa using hxz
            have HR := Lib.hid hR
            clear hR
            gi_upto_region 8 with (fail)
            gi_quiet ((gi_at_call 115; exact CallsIn.quiet_of_same (callsIn_wide.2 (amount_r _ _ _ (by omega) (by omega) (by omega) (by omega)))))
            refine world_gen (w := wr) (Q := fun W => Exit.then _ _ _ _ W) (fun W2 bW => ?_) _
            obtain ⟨S1, it1⟩ := IT.out.fresh HJ.out bW
            have IT1 := Lib.hid it1
            clear it1 bW c0 c1 c2
            gi_wp2
            gi_roundg (m - (k + 1))
            case measure => omega
            case rel => exact ⟨k + 1, by omega, by omega, by go_num, ⟨S1, by rw [STP2.out, HR.out]; exact IT1.out⟩⟩
          · have hxb : decide (dist a2 a1 < dist a1 a0) = false := by simpa using hxz
            obtain ⟨hcc, hcm⟩ := IT.out.p.caps
            rw [HE.out.1] at hcc
            gi_upto_region 8 with (fail)
            gi_quiet ((gi_at_call 115; exact CallsIn.quiet_of_same (callsIn_wide.2 (amount_r _ _ _ (by omega) (by omega) (by omega) (by omega)))))
            refine world_gen (w := wr) (Q := fun W => Exit.then _ _ _ _ W) (fun W2 bW => ?_) _
            obtain ⟨S1, it1⟩ := IT.out.fresh HJ.out bW
            clear bW c0 c1 c2
            rcases Nat.eq_zero_or_pos r with h0 | h0
            · have hR := S1'.out h0 hxz
              have hpre : out ++ [(dist a1 a0, 1)] <+: cycP zs := by
                have h1 := pileP_pre zs (k + 1)
                obtain ⟨mm, hm⟩ := shrink_pre f (pile.drop 1) (out ++ [(dist a1 a0, 1)])
                rw [HTS.out, STP2.out, hR, hm] at h1
                exact (List.prefix_append _ _).trans h1
              have HR := Lib.hid hR
              have HP := Lib.hid hpre
              clear S1' S2 SS hR hpre hxz
              subst h0
              obtain ⟨fn, tmps, assign, body, hy, hR2⟩ := HY.out S1 out (dist a1 a0, 1) W2 it1.j HP.out
              dsimp only at hy
              have IT1 := Lib.hid it1
              clear it1
              simp only [Nat.zero_add] at hcc IT1 HE ⊢
              gi_wp2
              refine hR2.mono ?_
              rintro e W3 ⟨rfl, hJ3, hk3, hb3⟩
              have it2 := IT1.out.told hJ3 hk3 hb3.size
              have IT2 := Lib.hid it2
              clear hJ3 hk3 hb3 it2 IT1 IT
              gi_wp2
              gi_roundg 2
              case measure => omega
              case rel =>
                have e := HE.out.1
                exact ⟨2, g, o + 1, c - 1, by omega, by omega, by omega, rfl, rfl, S1, pile.drop 1, _, f, by rw [List.length_drop, e], IT2.out.cut (IT2.out.p.drop 1 (by omega)) rfl, HR.out.symm, by rw [List.length_drop, e]; have := HE.out.2.1; omega, fun x hx => HE.out.2.2 x (List.mem_of_mem_drop hx)⟩
            · obtain ⟨t, rfl⟩ : ∃ t, r = t + 1 := ⟨r - 1, by omega⟩
              have hR := S2.out t rfl hxz
              have hpre : out ++ [(dist a1 a0, 2)] <+: cycP zs := by
                have h1 := pileP_pre zs (k + 1)
                obtain ⟨mm, hm⟩ := shrink_pre f (pile.take (t + 1) ++ [pile[t + 3]!]) (out ++ [(dist a1 a0, 2)])
                rw [HTS.out, STP2.out, hR, hm] at h1
                exact (List.prefix_append _ _).trans h1
              have HR := Lib.hid hR
              have HP := Lib.hid hpre
              clear S1' S2 SS hR hpre hxz
              obtain ⟨fn, tmps, assign, body, hy, hR2⟩ := HY.out S1 out (dist a1 a0, 2) W2 it1.j HP.out
              dsimp only at hy
              have IT1 := Lib.hid it1
              clear it1
              have hn3 : (((t + 1 + 3 : Nat) : Int) == 3) = false := by simp; omega
              gi_wp2
              refine hR2.mono ?_
              rintro e W3 ⟨rfl, hJ3, hk3, hb3⟩
              have it2 := IT1.out.told hJ3 hk3 hb3.size
              have IT2 := Lib.hid it2
              clear hJ3 hk3 hb3 it2 IT1 IT
              gi_wp2_with (gi_at_call 116; refine (callsIn_wide.2 (delete_q IT2.out.p t (by have := HE.out.1; omega) _ _ (by omega) (by omega))).mono ?_; rintro e W4 ⟨rfl, hO, hG⟩; obtain ⟨S2, it4⟩ := IT2.out.turn HJ.out hG hO (.inl rfl); have IT4 := Lib.hid it4; clear hO hG it4)
              gi_roundg (t + 2)
              case measure => omega
              case rel =>
                have e := HE.out.1
                refine ⟨t + 2, g, o, c, by omega, by omega, by omega, rfl, by go_num, S2, _, _, f, ?_, IT4.out, HR.out.symm, ?_, fun x hx => ?_⟩
                · simp; omega
                · have := HE.out.2.1; simp; omega
                · rcases List.mem_append.1 hx with h | h
                  · exact HE.out.2.2 x (List.mem_of_mem_take h)
                  · rw [show x = pile[t + 3]! by simpa using h]; exact HE.out.2.2 _ (get_mem _ _ (by omega))
    · have hltz : ¬ (k : Int) < (m : Int) := by omega
      have hkm : k = m := by omega
      subst hkm
      obtain ⟨S, it⟩ := hI.out
      obtain ⟨v3, c3, e3, _, _, hv3⟩ := it.p.view
      have hpl : (pileP (ts.take k)).1.length ≤ k := Nat.le_trans (pileP_len _) (List.length_take_le _ _)
      have hall : ts.take k = ts := List.take_of_length_le (by rw [HM.out]; exact Nat.le_refl _)
      rw [hall] at it hpl e3 hv3
      have hcyc : cycP zs = (pileP ts).2 ++ restP (pileP ts).1 := by unfold cycP; rw [HTS.out]
      have hld : Loads (pileP ts).1 := fun x hx => hl x (turnP_mem zs x (by rw [HTS.out]; exact pileP_mem _ _ hx))
      obtain ⟨pile, hp⟩ : ∃ p, (pileP ts).1 = p := ⟨_, rfl⟩
      obtain ⟨out, ho⟩ : ∃ p, (pileP ts).2 = p := ⟨_, rfl⟩
      rw [hp] at it hcyc hld hpl e3 hv3
      rw [ho] at it hcyc
      obtain ⟨np, hnp⟩ : ∃ np, pile.length = np := ⟨_, rfl⟩
      rw [hnp] at e3 hpl hv3
      subst e3
      have IT := Lib.hid it
      have HC := Lib.hid hcyc
      have HLD := Lib.hid hld
      have HNP := Lib.hid hnp
      clear hI it hcyc hld hnp hall hp ho
      have hnp1 : (np : Int) ≤ 300 := by omega
      gi_wp2
      obtain ⟨w2, rfl⟩ : ∃ w2, w2 = wr := ⟨_, rfl⟩
      gi_loopg [73] np (fun gg s73 wr => ∃ (j : Nat), j ≤ np ∧ np - j ≤ gg ∧ s73 = .int .i64 j ∧ Aside (∃ S, It 3 J W.heap.size S (out ++ restUp pile j) ts pile (.slice ao k cap) (.slice v3 np c3) wr))
      case atStart => exact ⟨0, Nat.zero_le _, by omega, rfl, ⟨S, by rw [restUp_zero, List.append_nil]; exact IT.out⟩⟩
      case round =>
        obtain ⟨j, hj, hjg, rfl, hI⟩ := hrel
        by_cases hjn : j < np
        · have hjz : (j : Int) < (np : Int) := by omega
          obtain ⟨S1, it⟩ := hI.out
          clear hI
          obtain ⟨g, o, rfl⟩ := hv3 (by omega)
          rcases Nat.eq_zero_or_pos j with h0 | h0
          · have hj0 : ¬ 0 < j := by omega
            have hj1 : decide (0 < j) = false := by simp; omega
            have HJ0 := Lib.hid h0
            have IT1 := Lib.hid it
            clear it h0
            gi_upto_region 19 with (fail)
            refine wpIn_region_quiet_lit rfl (by kernel_rfl) (by kernel_rfl) ?_
            repeat (gi_big_quiet_step (fail))
            refine BigFrame.wpQuietIn_skip (fun _ _ _ _ => trivial) rfl ?_
            go_simp
            repeat (gi_big_quiet_step (fail))
            refine wpQuietIn_nil ?_
            intro nq
            refine world_gen (w := wr) (fun W2 bW => ?_) nq
            rename_i KK hKK
            refine hKK _ _ ?_
            clear hKK KK
            obtain ⟨S2, it2⟩ := IT1.out.fresh HJ.out bW
            have IT2 := Lib.hid it2
            clear it2 bW
            gi_wp2
            gi_roundg (np - (j + 1))
            case measure => omega
            case rel => exact ⟨j + 1, by omega, by omega, by go_num, ⟨S2, by have h := IT2.out; rw [HJ0.out] at h ⊢; exact h⟩⟩
          · obtain ⟨i, rfl⟩ : ∃ i, j = i + 1 := ⟨j - 1, by omega⟩
            have ct := it.p.cells i (by rw [HNP.out]; omega)
            have ct1 := it.p.cells (i + 1) (by rw [HNP.out]; omega)
            obtain ⟨b01, b02⟩ := HLD.out _ (get_mem pile i (by rw [HNP.out]; omega))
            obtain ⟨b11, b12⟩ := HLD.out _ (get_mem pile (i + 1) (by rw [HNP.out]; omega))
            have hpre : (out ++ restUp pile (i + 1)) ++ [(dist pile[i + 1]! pile[i]!, 1)] <+: cycP zs := by
              rw [HC.out, List.append_assoc]
              exact (List.prefix_append_right_inj _).2 (restUp_pre pile i (by rw [HNP.out]; exact hjn))
            have hup : Aside (restUp pile (i + 1 + 1) = restUp pile (i + 1) ++ [(dist pile[i + 1]! pile[i]!, 1)]) := restUp_succ pile i
            have HP := Lib.hid hpre
            clear hpre
            generalize pile[i]! = a0 at ct b01 b02 HP hup
            generalize pile[i + 1]! = a1 at ct1 b11 b12 HP hup
            have hi0 : (0 : Int) ≤ (i : Int) := by omega
            have hi1 : (i : Int) + 1 < (np : Int) := by omega
            have hji : decide ((0 : Int) < ((i + 1 : Nat) : Int)) = true := by simp
            have IT1 := Lib.hid it
            clear it
            gi_upto_region 19 with (fail)
            refine wpIn_region_head 14 rfl (by kernel_rfl) (by kernel_rfl) (by kernel_rfl) (by decide) ?_
            simp only [List.take_succ_cons, List.take_zero]
            repeat (gi_big_quiet_step ((gi_at_call 115; exact CallsIn.quiet_of_same (callsIn_wide.2 (amount_r _ _ _ (by omega) (by omega) (by omega) (by omega))))))
            refine wpQuietIn_nil ?_
            intro _ hw'
            obtain ⟨nq, rfl⟩ := hw'
            refine world_gen (w := wr) (Q := fun W => wpAnyIn _ _ _ _ _ _ _ _ _ W) (fun W2 bW => ?_) _
            obtain ⟨S2, it2⟩ := IT1.out.fresh HJ.out bW
            obtain ⟨fn, tmps, assign, body, hy, hR2⟩ := HY.out S2 (out ++ restUp pile (i + 1)) (dist a1 a0, 1) W2 it2.j HP.out
            dsimp only at hy
            have IT2 := Lib.hid it2
            clear it2 bW ct ct1
            refine wpAnyIn_one (e := 14) (by kernel_rfl) rfl rfl (fun K hK => ?_)
            go_simp
            refine hR2.mono ?_
            rintro e W3 ⟨rfl, hJ3, hk3, hb3⟩
            have it3 := IT2.out.told hJ3 hk3 hb3.size
            have IT3 := Lib.hid it3
            clear hJ3 hk3 hb3 it3 IT2 IT1 hy hR2
            refine hK _ _ ?_
            clear hK K
            refine wpAnyIn_one (e := 15) (by kernel_rfl) rfl rfl (fun K hK => ?_)
            go_simp
            refine hK _ _ ?_
            clear hK K
            refine wpAnyIn_one (e := 16) (by kernel_rfl) rfl rfl (fun K hK => ?_)
            go_simp
            refine hK _ _ ?_
            clear hK K
            refine wpAnyIn_done (by kernel_rfl) ?_ _
            gi_wp2
            gi_roundg (np - (i + 1 + 1))
            case measure => omega
            case rel => exact ⟨i + 1 + 1, by omega, by omega, by go_num, ⟨S2, by rw [hup.out, ← List.append_assoc]; exact IT3.out⟩⟩
        · have hjz : ¬ (j : Int) < (np : Int) := by omega
          have hje : j = np := by omega
          subst hje
          gi_wp2
          go_end0
          obtain ⟨S1, it⟩ := hI.out
          refine ⟨⟨_, rfl⟩, S1, ?_⟩
          have h := it.j
          rw [← HNP.out, restUp_all, ← HC.out] at h
          exact h
end Go.Proofs.YtchnhjffpldpiaaDoor

/- parts.Cycles -/
namespace Go.Proofs.YtchnhjffpldpiaaDoor
open Go Go.RowKit Go.Shelf
attribute [local go_sem] Oper.semAt_some

theorem info_pr : ((Tryd.prog).info? 30).map (fun i => (i.zero, i.size, i.bytes)) = some (some (.agg #[.int .i64 0, .int .i64 0]), 2, 16) := by kernel_rfl

/-- What the caller's round keeps: its own list, beside the iterator's blocks. -/
structure Outs (n₀ ob : Nat) (w : World) (S : Nat → Prop) (pre : List (Int × Int)) (W : World) : Prop where
  box : ∃ v, Boxed W ob 26 v ∧ W.ownsRow n₀ 30 2 v pre.length (pre.flatMap encPair) ∧ (∀ g, v.ownBlock = some g → ¬ S g) ∧ (v = .slice none 0 0 ↔ pre = [])
  bS : ¬ S ob
  lt : ∀ k, S k → k < W.heap.size
  le : ∀ k, S k → n₀ ≤ k
  bel : Below n₀ w W

theorem Outs.ofs (n₀ ob : Nat) (w : World) (hn : n₀ ≤ w.heap.size) (B : Nat) (hB : n₀ ≤ B) (S : Nat → Prop) : OwnFrom B (Outs n₀ ob w S) := by
  rintro pre X Y row ⟨⟨v, b1, b2, b3, b4⟩, hS, hl, hle, hb⟩ hg hr
  refine ⟨⟨v, b1.kept hg (fun e => ?_), b2.kept hg ?_, b3, b4⟩, hS, fun k hk => Nat.lt_of_lt_of_le (hl k hk) hg.size, hle, (ownFrom_below (β := Unit) hn hB) () X Y row hb hg hr⟩
  · obtain ⟨_, o, ho, hc⟩ := hr ob e.symm
    rw [show X.heap[ob]? = _ from b1] at ho; cases ho; cases hc
  · cases hv : v.ownBlock with
    | none => exact .inl rfl
    | some g =>
      refine .inr fun e => ?_
      obtain ⟨_, o, ho, hc⟩ := hr g e.symm
      rcases b2.2 with ⟨hz, _⟩ | ⟨g', cap, cur, hz, _, hg', _⟩
      · rw [hz] at hv; cases hv
      · rw [hz] at hv; cases hv
        rw [hg'] at ho; cases ho; cases hc
theorem Outs.mind (n₀ ob : Nat) (w : World) (hn : n₀ ≤ w.heap.size) : Minds (Outs n₀ ob w) := by
  rintro S pre X Y row ⟨⟨v, b1, b2, b3, b4⟩, hS, hl, hle, hb⟩ hg hr
  have hz := hb.size
  have hz2 := hg.size
  refine ⟨⟨v, b1.kept hg (fun e => hS (hr ob e.symm)), b2.kept hg ?_, ?_, b4⟩, ?_, ?_, ?_, hb.grown hg (by omega) (fun k e => hle k (hr k e))⟩
  · cases hv : v.ownBlock with
    | none => exact .inl rfl
    | some g => exact .inr fun e => b3 g hv (hr g e.symm)
  · rintro g hv (h | ⟨h, _⟩)
    · exact b3 g hv h
    · have := (b2.lt g hv).2; omega
  · rintro (h | ⟨h, _⟩)
    · exact hS h
    · have := b1.lt; omega
  · rintro k (h | ⟨_, h⟩)
    · have := hl k h; omega
    · exact h
  · rintro k (h | ⟨h, _⟩)
    · exact hle k h
    · omega

theorem row_view {W : World} {base : Nat} {e : TypeId} {size : Nat} {v : Value} {n : Nat} {xs : List Value} (h : W.ownsRow base e size v n xs) : ∃ ao cap, v = .slice ao n cap := by
  rcases h.2 with ⟨h1, h2⟩ | ⟨g, cap, cur, h1, _⟩
  · exact ⟨none, 0, by rw [h1, h2]⟩
  · exact ⟨_, cap, h1⟩
theorem news_pair (W : World) (x : Int × Int) (T : TypeId) : ∀ (j : Nat) (u : Value), (encPair x)[j]? = some u → (W.alloc (.cells #[.int .i64 x.1, .int .i64 x.2] T)).cell? ((⟨W.heap.size, 0, none⟩ : Addr).add j) = some u :=
  World.news_of_block (cs := #[.int .i64 x.1, .int .i64 x.2]) (t := T) (fr := (0, 0)) (heap_alloc_new W _)

set_option maxRecDepth 100000 in
set_option maxHeartbeats 4000000 in
theorem cycles_ok (zs : List Int) (a : Option Addr) (n c : Nat) (w : World) (B : Nat) (hB : B ≤ w.heap.size) (hR : Rd encInt 1 w B a n zs) (he : seriesE zs = 0) :
    Calls Tryd.prog 19 #[.slice a n c] w fun e w' => ∃ v, e = .returned (.tuple #[v, .int .i64 0]) ∧ w'.ownsRow w.heap.size 30 2 v (cycP zs).length ((cycP zs).flatMap encPair) ∧ (v = .slice none 0 0 ↔ cycP zs = []) ∧ Below w.heap.size w w' := by
  obtain ⟨hlen, hld⟩ := loads_of he
  have hn := hR.len
  have hna : n ≤ 300 := by omega
  have SE := Lib.hid (fun (W : World) (hW : Below w.heap.size w W) => by
    have := series_any zs a n c W B (Nat.le_trans hB hW.size) (hR.below (hW.mono hB))
    rw [he] at this
    exact this)
  have IT := Lib.hid (fun (cb : Nat) (W : World) (hW : Below w.heap.size w W) (hc : W.cell? ⟨cb, 0, none⟩ = some (.slice a n c)) (hcl : cb < W.heap.size) =>
    count1_mine 8 (by omega) zs hld cb a n c W B (Nat.le_trans hB hW.size) (hR.below (hW.mono hB)) hna hcl hc w.heap.size)
  have CL := Lib.hid (cycP_len zs)
  have HLEN := Lib.hid hlen
  obtain ⟨cs, hcs⟩ : ∃ cs, cycP zs = cs := ⟨_, rfl⟩
  rw [hcs] at IT CL ⊢
  clear hld hR hn hlen hcs he hB
  refine (callsIn_wide (n := 9)).1 ?_
  refine callsIn_of_wp_marks Tryd.func19 rfl trivial ?_ rfl
  simp only [Tryd.ntmps19, List.size_toArray, List.length_cons, List.length_nil, Nat.reduceAdd, Nat.reduceSub, Array.replicate_succ, Array.replicate_zero, List.push_toArray, List.append_toArray, List.nil_append, List.cons_append]
  have f1 : Fence.wide.fn 62 := trivial
  have f2 : Fence.wide.fn 63 := trivial
  gi_wp2_with (first
    | (gi_at_call 62; refine (callsIn_wide.2 (SE.out _ ((Below.refl _ _).alloc (Nat.le_refl _) _))).mono ?_; rintro e w1 ⟨rfl, hb1⟩)
    | (gi_at_call 63; refine (callsIn_wide.2 (count_any _ _ _ _ _ rfl)).mono ?_; rintro e w2 ⟨rfl, rfl⟩))
  have hbw1 : Below w.heap.size w w1 := ((Below.refl _ _).alloc (Nat.le_refl _) _).trans (hb1.mono (by rw [World.size_alloc]; omega))
  have hbw2 : Below w.heap.size w (w1.alloc (.cells #[.slice a n c] 22)) := hbw1.alloc hbw1.size _
  have hz1 : w.heap.size < w1.heap.size := by have := hb1.size; rw [World.size_alloc] at this; omega
  have hbx : Boxed (w1.alloc (.cells #[.slice a n c] 22)) w.heap.size 26 (.slice none 0 0) := by
    refine Boxed.alloc ?_ _
    exact (hb1.block _ (by rw [World.size_alloc]; omega)).trans (Boxed.new w 26 (.slice none 0 0))
  have hcb : (w1.alloc (.cells #[.slice a n c] 22)).cell? ⟨w1.heap.size, 0, none⟩ = some (.slice a n c) := (Boxed.new w1 22 (.slice a n c)).cell
  have IT2 := Lib.hid (IT.out w1.heap.size _ hbw2 hcb (by rw [World.size_alloc]; omega))
  have H0 := Lib.hid (show Outs w.heap.size w.heap.size w (fun _ => False) [] (w1.alloc (.cells #[.slice a n c] 22)) from ⟨⟨_, hbx, World.ownsRow_nil _ _ _ _, (fun g hg => by cases hg), by simp⟩, id, (fun _ h => h.elim), (fun _ h => h.elim), hbw2⟩)
  have HZ := Lib.hid (show w.heap.size ≤ (w1.alloc (.cells #[.slice a n c] 22)).heap.size from hbw2.size)
  obtain ⟨i0, hi, hy0, hy1, hy2⟩ := info_parts info_pr
  have I0 := Lib.hid (And.intro hi (And.intro hy0 (And.intro hy1 hy2)))
  clear hi hy0 hy1 hy2 hcb hbx IT SE hb1 hbw1 hbw2
  refine wpIn_rangeFunc_mine rfl (by omega) (gf := 113) (lb := #[.pointer (some ⟨w1.heap.size, 0, none⟩)]) rfl trivial (enters_of Tryd.func113 (by kernel_rfl) rfl) IT2.out HZ.out (fun _ => rfl)
    (Outs w.heap.size w.heap.size w) (fun S => Outs.ofs _ _ _ (Nat.le_refl _) _ HZ.out S) (Outs.mind _ _ _ (Nat.le_refl _)) H0.out
    (fun x a' _ => a' = { tmps := #[.slice a n c, undef, .pointer (some ⟨w.heap.size, 0, none⟩), .int .i64 0, .int .i64 0, .int .i64 x.1, .int .i64 x.2, .slice a n c, .int .i64 0, .int .i64 0, .bool false, undef, .slice a n c, .func (.func 113) #[] #[.pointer (some ⟨w1.heap.size, 0, none⟩)], .int .i64 x.1, .int .i64 x.2, undef, undef, undef, undef, undef, undef, undef], defers := [] })
    (fun _ _ _ _ _ _ h _ _ => h) ?assign ?body ?done
  case assign =>
    intro l S pre x W K hI hS hK
    gi_wp2
    exact hK _ _ (KeepsFrom.refl _ _) (fun _ _ => rfl) (Below.refl _ _) hI rfl
  case body =>
    rintro l S pre x _ W hl hr ⟨⟨v, hv, hrow, hvs, hnil⟩, hbS, hlt, hle, hB⟩ hSr rfl hpre
    have hc := hv.cell
    have hlen : pre.length < 300 := by
      have h1 := hpre.length_le
      have h2 := CL.out
      have h3 := HLEN.out
      rw [List.length_append, List.length_singleton] at h1
      omega
    obtain ⟨x1, x2⟩ := x
    have hb63 : pre.length + 1 ≤ maxLen := by simp only [maxLen]; omega
    have hb16 : (pre.length + 1) * 16 ≤ 140737488355328 := by omega
    have hbs : w.heap.size ≤ (W.alloc (.cells #[.int .i64 x1, .int .i64 x2] 30)).heap.size := by have := hB.size; rw [World.size_alloc]; omega
    have HV := Lib.hid hv
    have HROW := Lib.hid hrow
    have HVS := Lib.hid hvs
    have HREST := Lib.hid (And.intro hnil (And.intro hbS (And.intro hlt (And.intro hle hB))))
    have HBS := Lib.hid hbs
    have HB63 := Lib.hid hb63
    have HB16 := Lib.hid hb16
    clear hv hrow hvs hnil hbS hlt hle hB hbs hb63 hb16 hpre hSr hlen
    gi_wp2_with (gi_at_builtin; refine wpListIn_append_lies _ rfl _ _ 26 rfl w.heap.size 30 i0 (.agg #[.int .i64 0, .int .i64 0]) 2 16 Tryd.underlying26 I0.out.1 I0.out.2.1 I0.out.2.2.1 I0.out.2.2.2 rfl (by decide) v pre.length _ rfl (HROW.out.alloc _) ⟨W.heap.size, 0, none⟩ 1 1 (encPair (x1, x2)) rfl rfl (news_pair W (x1, x2) _) (by simp [encPair, Value.oneCell']) (by decide) HB63.out HB16.out HBS.out ?_; intro g' cap' w3 hown' hgrow hat; obtain ⟨hv1, hv2, hr2, hk2, hb2⟩ := HV.out.appended (by decide) HROW.out HREST.out.2.2.2.2.size (Nat.le_refl _) hown' hgrow; have hc1 := hv1.cell; have hf1 := hv1.frozen; have HV2 := Lib.hid hv2; have HR2 := Lib.hid hr2; have HK2 := Lib.hid hk2; have HB2 := Lib.hid hb2; have HG := Lib.hid hgrow; have HAT := Lib.hid hat; clear hv1 hv2 hr2 hk2 hb2 hgrow hat hown')
    have hkeep : ∀ k, S k → (w3.setCell ⟨w.heap.size, 0, none⟩ (.slice (some ⟨g', 0, none⟩) (pre.length + 1) cap')).heap[k]? = W.heap[k]? := by
      intro k hk
      have h1 := HREST.out.2.2.1 k hk
      have hne : k ≠ w.heap.size := fun e => HREST.out.2.1 (e ▸ hk)
      rw [Below.heap_setCell _ _ _ _ hne, HG.out.block k (by rw [World.size_alloc]; omega) (fun e => HVS.out k e.symm hk), Below.heap_alloc _ _ _ h1]
    refine ⟨HK2.out.from _, hkeep, HB2.out, ⟨_, HV2.out, ?_, ?_, ?_⟩, HREST.out.2.1, fun k hk => Nat.lt_of_lt_of_le (HREST.out.2.2.1 k hk) HK2.out.size, HREST.out.2.2.2.1, HREST.out.2.2.2.2.trans HB2.out⟩
    · have := HR2.out
      simpa [List.flatMap_append] using this
    · intro g hg hs
      cases hg
      rcases HAT.out with h | h
      · exact HVS.out g' h hs
      · have := HREST.out.2.2.1 g' hs
        rw [h, World.size_alloc] at this
        omega
    · simp
  case done =>
    rintro D S W hD ⟨⟨v, hv, hrow, hvs, hnil⟩, hbS, hlt, hle, hB⟩ hK
    obtain ⟨ao, cap, rfl⟩ := row_view hrow
    have hc := hv.cell
    have hf := hv.frozen
    gi_wp2
    have hK2 := (KeepsOthers.setCell W ⟨w.heap.size, 0, none⟩ (.slice ao cs.length cap)).same D _ hK rfl
    refine ⟨by simp, .inl ⟨_, _, rfl, run_takeDeferred hK2, ?_⟩⟩
    have hb5 : Boxed ((W.setCell ⟨w.heap.size, 0, none⟩ (.slice ao cs.length cap)).putObj D (.deferred none)) w.heap.size 26 (.slice ao cs.length cap) :=
      (hv.set (.slice ao cs.length cap)).kept (grownBy_putObj' _ D _) (fun e => by cases e; rw [World.size_alloc] at hD; omega)
    have hr5 : ((W.setCell ⟨w.heap.size, 0, none⟩ (.slice ao cs.length cap)).putObj D (.deferred none)).ownsRow w.heap.size 30 2 (.slice ao cs.length cap) cs.length (cs.flatMap encPair) :=
      ownsRow_putObj (hrow.kept (grownBy_setCell' W w.heap.size _) (.inr (hv.not_row (by decide) hrow).symm)) _ hK2 rfl
    have hB5 : Below w.heap.size w ((W.setCell ⟨w.heap.size, 0, none⟩ (.slice ao cs.length cap)).putObj D (.deferred none)) :=
      (hB.setCell (p := ⟨w.heap.size, 0, none⟩) (Nat.le_refl _) _).trans (belowK_b (w := w) (Nat.le_refl _) _ D _ _ (by rw [World.size_alloc] at hD; omega) hK2 rfl rfl)
    generalize (W.setCell ⟨w.heap.size, 0, none⟩ (.slice ao cs.length cap)).putObj D (.deferred none) = W5 at hb5 hr5 hB5 ⊢
    have hc5 := hb5.cell
    refine ⟨.tuple #[.slice ao cs.length cap, .int .i64 0], ?_, .slice ao cs.length cap, rfl, hr5, hnil, hB5⟩
    simp [results, Tryd.results19, go_sem, hc5]
end Go.Proofs.YtchnhjffpldpiaaDoor

/- swashplatelaw09.samePairs, and where Cycles refuses. -/
namespace Go.Proofs.YtchnhjffpldpiaaDoor
open Go.RowKit
attribute [local go_sem] eqi_spot eqi_pair gd_spot gd_pair

theorem ret_false : Ending.returned (.bool false) = .returned (.bool false) := rfl

theorem rd_pair {w : World} {B : Nat} {a : Option Addr} {n : Nat} {xs : List (Int × Int)} (h : Rd encPair 2 w B a n xs) (j : Nat) (hj : j < n) : ∃ b off, a = some ⟨b, off, none⟩ ∧ b < B ∧
    w.cell? ⟨b, off + j * 2, none⟩ = some (.int .i64 (xs[j]!).1) ∧ w.cell? ⟨b, off + j * 2 + 1, none⟩ = some (.int .i64 (xs[j]!).2) := by
  obtain ⟨b, off, h1, h2⟩ := h.ex
  obtain ⟨ha, hb⟩ := h1 (by omega)
  exact ⟨b, off, ha, hb, h2 j hj 0 _ rfl, h2 j hj 1 _ rfl⟩

theorem take_ext {α : Type} [Inhabited α] {xs ys : List α} (hl : xs.length = ys.length) (h : ∀ j, j < xs.length → xs[j]! = ys[j]!) : xs = ys := by
  apply List.ext_getElem hl
  intro i h1 h2
  have := h i h1
  rwa [getElem!_pos xs i h1, getElem!_pos ys i h2] at this

set_option maxRecDepth 100000 in
set_option maxHeartbeats 1000000 in
theorem samePairs_any (xs ys : List (Int × Int)) (a a2 : Option Addr) (n c n2 c2 : Nat) (w : World) (B : Nat) (hB : B ≤ w.heap.size) (h1 : Rd encPair 2 w B a n xs) (h2 : Rd encPair 2 w B a2 n2 ys) :
    Calls Tryd.prog 21 #[.slice a n c, .slice a2 n2 c2] w fun e w' => e = .returned (.bool (decide (xs = ys))) ∧ Below w.heap.size w w' := by
  have e1 := h1.len
  have e2 := h2.len
  have m1 := h1.big
  have m2 := h2.big
  by_cases hl : n = n2
  · subst hl
    have HE := Lib.hid (And.intro e1 e2)
    have R1 := Lib.hid h1
    have R2 := Lib.hid h2
    have HB := Lib.hid hB
    clear h1 h2 e1 e2 hB m2
    go_enter Tryd.func21, Tryd.ntmps21
    go_wp2
    go_loopg [5] n (fun gg s5 wr => ∃ k : Nat, k ≤ n ∧ n - k ≤ gg ∧ s5 = .int .i64 k ∧ Aside (Below w.heap.size w wr) ∧ Aside (∀ j, j < k → xs[j]! = ys[j]!))
    case atStart => exact ⟨0, Nat.zero_le _, by omega, rfl, Below.refl _ _, fun j hj => by omega⟩
    case round =>
      obtain ⟨k, hk, hg, rfl, BW, EQ⟩ := hrel
      by_cases hlt : k < n
      · have hltz : (k : Int) < (n : Int) := by omega
        have hk0 : (0 : Int) ≤ (k : Int) := by omega
        obtain ⟨b, off, rfl, hb, x1, x2⟩ := rd_pair R1.out k hlt
        obtain ⟨b', off', rfl, hb', y1, y2⟩ := rd_pair R2.out k hlt
        replace x1 := ((BW.out.mono HB.out).cell (p := ⟨b, off + k * 2, none⟩) hb).trans x1
        replace x2 := ((BW.out.mono HB.out).cell (p := ⟨b, off + k * 2 + 1, none⟩) hb).trans x2
        replace y1 := ((BW.out.mono HB.out).cell (p := ⟨b', off' + k * 2, none⟩) hb').trans y1
        replace y2 := ((BW.out.mono HB.out).cell (p := ⟨b', off' + k * 2 + 1, none⟩) hb').trans y2
        obtain ⟨x, hx⟩ : ∃ x, xs[k]! = x := ⟨_, rfl⟩
        obtain ⟨y, hy⟩ : ∃ y, ys[k]! = y := ⟨_, rfl⟩
        rw [hx] at x1 x2
        rw [hy] at y1 y2
        have HXY := Lib.hid (And.intro hx hy)
        obtain ⟨xa, xb⟩ := x
        obtain ⟨ya, yb⟩ := y
        simp only at x1 x2 y1 y2
        clear hx hy
        by_cases he : xa = ya ∧ xb = yb
        · obtain ⟨rfl, rfl⟩ := he
          go_wp2
          go_quiet (fail)
          refine world_gen (w := wr) (Q := fun W => Exit.then _ _ _ _ W) (fun W bW => ?_) _
          have BW2 := Lib.hid bW
          clear bW x1 x2 y1 y2
          go_wp2
          go_roundg (n - (k + 1))
          case measure => omega
          case rel => exact ⟨k + 1, by omega, by omega, by go_num, BW.out.trans (BW2.out.mono BW.out.size), fun j hj => by
            by_cases e : j = k
            · subst e; exact HXY.out.1.trans HXY.out.2.symm
            · exact EQ.out j (by omega)⟩
        · have hf : (xa == ya && xb == yb) = false := by
            rw [Bool.and_eq_false_iff]
            simp only [beq_eq_false_iff_ne]
            by_cases e : xa = ya
            · exact .inr fun e2 => he ⟨e, e2⟩
            · exact .inl e
          have HN := Lib.hid he
          clear he
          go_wp2
          go_quiet (fail)
          refine world_gen (w := wr) (Q := fun W => Exit.then _ _ _ _ W) (fun W bW => ?_) _
          have BW2 := Lib.hid bW
          clear bW x1 x2 y1 y2
          go_wp2
          go_ret
          refine ⟨ret_bool ?_, BW.out.trans (BW2.out.mono BW.out.size)⟩
          refine (decide_eq_false ?_).symm
          intro e
          rw [e] at HXY
          have := HXY.out.1.symm.trans HXY.out.2
          injection this with h1 h2
          exact HN.out ⟨h1, h2⟩
      · have hltz : ¬ (k : Int) < (n : Int) := by omega
        have : k = n := by omega
        subst this
        go_wp2
        go_ret
        refine ⟨ret_bool ?_, BW.out⟩
        refine (decide_eq_true ?_).symm
        exact take_ext (by rw [← HE.out.1, ← HE.out.2]) (fun j hj => EQ.out j (by rw [HE.out.1]; exact hj))
  · have hne : ((n : Int) == (n2 : Int)) = false := by simp; omega
    have hd : decide (xs = ys) = false := decide_eq_false (fun e => hl (by rw [e1, e2, e]))
    rw [hd]
    clear h1 h2 e1 e2 hd
    go_enter Tryd.func21, Tryd.ntmps21
    go_wp2
    go_ret
    exact ⟨rfl, Below.refl _ _⟩

set_option maxHeartbeats 1000000 in
theorem cycles_err (zs : List Int) (a : Option Addr) (n c : Nat) (w : World) (B : Nat) (hB : B ≤ w.heap.size) (hR : Rd encInt 1 w B a n zs) (er : Int) (he : seriesE zs = er) (h0 : er ≠ 0) :
    Calls Tryd.prog 19 #[.slice a n c] w fun e w' => e = .returned (.tuple #[.slice none 0 0, .int .i64 er]) ∧ Below w.heap.size w w' := by
  have SE := Lib.hid (fun (W : World) (hW : Below w.heap.size w W) => by
    have := series_any zs a n c W B (Nat.le_trans hB hW.size) (hR.below (hW.mono hB))
    rw [he] at this
    exact this)
  have hz : er = 1 ∨ er = 2 := by
    unfold seriesE at he
    split at he
    · omega
    · split at he <;> omega
  clear hR hB he h0
  rcases hz with rfl | rfl
  all_goals
    go_enter Tryd.func19, Tryd.ntmps19
    go_wp2_with (first
      | (go_at_call 62; refine (SE.out _ ((Below.refl _ _).alloc (Nat.le_refl _) _)).mono ?_; rintro e w1 ⟨rfl, hb1⟩; have hbx : Boxed w1 w.heap.size 26 (.slice none 0 0) := (hb1.block _ (by rw [World.size_alloc]; omega)).trans (Boxed.new w 26 (.slice none 0 0)); have hc1 := hbx.cell; have hf1 := hbx.frozen; clear hbx))
    have hbw : Below w.heap.size w (w1.setCell ⟨w.heap.size, 0, none⟩ (.slice none 0 0)) := (((Below.refl _ _).alloc (Nat.le_refl _) _).trans (hb1.mono (by rw [World.size_alloc]; omega))).setCell (p := ⟨w.heap.size, 0, none⟩) (Nat.le_refl _) _
    first
      | exact bodyPost_ret (v := .tuple #[.slice none 0 0, .int .i64 1]) (by simp [results, Tryd.results19, go_sem, hc1]) rfl ⟨rfl, hbw⟩
      | exact bodyPost_ret (v := .tuple #[.slice none 0 0, .int .i64 2]) (by simp [results, Tryd.results19, go_sem, hc1]) rfl ⟨rfl, hbw⟩
end Go.Proofs.YtchnhjffpldpiaaDoor

/- swashplatelaw09.Example -/
namespace Go.Proofs.YtchnhjffpldpiaaDoor
open Go.RowKit

def exR : RegR := { kinds := [⟨100, 50, 1⟩, ⟨1000, 1000, 2⟩], parts := [⟨0, 90, 10, true⟩, ⟨0, 0, 0, true⟩, ⟨1, 0, 0, true⟩, ⟨1, 0, 0, true⟩], machines := 1, orders := [⟨1, 5⟩] }
def exL : List WorkR := [⟨2, 0, 0, 0⟩, ⟨2, 2, 0, 0⟩, ⟨2, 3, 0, 1⟩, ⟨1, 0, 4, 3⟩]

theorem ex_longest : longestR (openH exR exL) 0 2 = (6, 0) := by kernel_rfl
theorem ex_cycles : cycP [0, 5, 2, 4, 1, 6, 0] = [(2, 2), (4, 2), (6, 1), (6, 1)] := by kernel_rfl
theorem ex_series : seriesE [0, 5, 2, 4, 1, 6, 0] = 0 := by kernel_rfl

theorem flat_cells {α : Type} [Inhabited α] (enc : α → List Value) (k : Nat) (hk : ∀ x, (enc x).length = k) : ∀ (xs : List α) (j i : Nat) (u : Value), j < xs.length → (enc xs[j]!)[i]? = some u → (xs.flatMap enc)[j * k + i]? = some u := by
  intro xs
  induction xs with
  | nil => intro j i u hj; simp at hj
  | cons x xs ih =>
    intro j i u hj hu
    cases j with
    | zero =>
      have hi : i < (enc x).length := (List.getElem?_eq_some_iff.1 (show (enc x)[i]? = some u from hu)).1
      rw [List.flatMap_cons, Nat.zero_mul, Nat.zero_add, List.getElem?_append_left hi]
      exact hu
    | succ j =>
      rw [List.flatMap_cons, List.getElem?_append_right (by rw [hk, Nat.succ_mul]; omega), hk, show (j + 1) * k + i - k = j * k + i by rw [Nat.succ_mul]; omega]
      exact ih j i u (by simpa using hj) hu
/-- A block known whole reads as the list that it was made of. -/
theorem rd_block {α : Type} [Inhabited α] {enc : α → List Value} {k : Nat} (hk : ∀ x, (enc x).length = k) {w : World} {B b : Nat} {xs : List α} {cs : Array Value} {T : TypeId} {f : Nat × Nat} (h : w.heap[b]? = some (.cells cs T f)) (hc : cs.toList = xs.flatMap enc) (hb : b < B) (n : Nat) (hn : n = xs.length) (hbig : n ≤ 1000000) :
    Rd enc k w B (some ⟨b, 0, none⟩) n xs := by
  refine ⟨hn, by omega, b, 0, fun _ => ⟨rfl, hb⟩, fun j hj i u hu => ?_⟩
  have := flat_cells enc k hk xs j i u (by omega) hu
  rw [← hc] at this
  simp only [World.cell?, h, Nat.zero_add]
  simpa using this

set_option maxRecDepth 100000 in
set_option maxHeartbeats 1000000 in
theorem example_any (w : World) :
    Calls Tryd.prog 61 #[] w fun e w' => ∃ ka pa oa la, e = .returned (.tuple #[.agg #[.slice ka 2 2, .slice pa 4 4, .int .i64 1, .slice oa 1 1], .slice la 4 4]) ∧ RegRd w' w'.heap.size ka pa oa 2 4 1 exR ∧ Rd encWork 4 w' w'.heap.size la 4 exL ∧ Below w.heap.size w w' := by
  go_enter Tryd.func61, Tryd.ntmps61
  go_wp2
  refine bodyPost_ret (v := .tuple #[.agg #[.slice (some ⟨w.heap.size + 1, 0, none⟩) 2 2, .slice (some ⟨w.heap.size + 1 + 1, 0, none⟩) 4 4, .int .i64 1, .slice (some ⟨w.heap.size + 1 + 1 + 1, 0, none⟩) 1 1], .slice (some ⟨w.heap.size + 1 + 1 + 1 + 1 + 1, 0, none⟩) 4 4]) (by simp [results, Tryd.results61, go_sem]) rfl ⟨_, _, _, _, rfl, ⟨?_, ?_, ?_⟩, ?_, ?_⟩
  · exact rd_block (enc := encKind) (k := 3) (fun _ => rfl) (by (simp only [World.alloc, Array.getElem?_push, Array.size_push]; (repeat (first | rw [if_neg (by omega)] | rw [if_pos (by omega)] | rw [if_pos trivial])); rfl)) rfl (by simp only [World.size_alloc]; omega) 2 rfl (by omega)
  · exact rd_block (enc := encPart) (k := 4) (fun _ => rfl) (by (simp only [World.alloc, Array.getElem?_push, Array.size_push]; (repeat (first | rw [if_neg (by omega)] | rw [if_pos (by omega)] | rw [if_pos trivial])); rfl)) rfl (by simp only [World.size_alloc]; omega) 4 rfl (by omega)
  · exact rd_block (enc := encOrder) (k := 2) (fun _ => rfl) (by (simp only [World.alloc, Array.getElem?_push, Array.size_push]; (repeat (first | rw [if_neg (by omega)] | rw [if_pos (by omega)] | rw [if_pos trivial])); rfl)) rfl (by simp only [World.size_alloc]; omega) 1 rfl (by omega)
  · exact rd_block (enc := encWork) (k := 4) (fun _ => rfl) (by (simp only [World.alloc, Array.getElem?_push, Array.size_push]; (repeat (first | rw [if_neg (by omega)] | rw [if_pos (by omega)] | rw [if_pos trivial])); rfl)) rfl (by simp only [World.size_alloc]; omega) 4 rfl (by omega)
  · exact (((((((Below.refl _ _).alloc (Nat.le_refl _) _).alloc (by simp only [World.size_alloc]; omega) _).alloc (by simp only [World.size_alloc]; omega) _).alloc (by simp only [World.size_alloc]; omega) _).alloc (by simp only [World.size_alloc]; omega) _).alloc (by simp only [World.size_alloc]; omega) _)
end Go.Proofs.YtchnhjffpldpiaaDoor

/- swashplatelaw09.works: the examples of the chapter come out. -/
namespace Go.Proofs.YtchnhjffpldpiaaDoor
open Go.RowKit

variable {r : RegR} {l : List WorkR} {ka pa oa la : Option Addr} {nk kc np pc no oc nl lc : Nat} {w : World} {B : Nat}

theorem Longest_any (h : Given w B ka pa oa la nk np no nl r l) (m c : Int) (p : Int × Int) (hp : longestR (openH r l) m c = p) (mm : Int) (hm : r.machines = mm) :
    Calls Tryd.prog 23 #[.agg #[.slice ka nk kc, .slice pa np pc, .int .i64 mm, .slice oa no oc], .slice la nl lc, .int .i64 m, .int .i64 c] w fun e w' =>
      e = .returned (.tuple #[.int .i64 p.1, .int .i64 p.2]) ∧ Below w.heap.size w w' := by
  subst hm
  cases ho : openH r l with
  | inl H => rw [ho] at hp; exact longest_ok h m c ho p hp
  | inr q =>
    obtain ⟨i, er⟩ := q
    rw [ho] at hp
    subst hp
    exact longest_err h m c ho

/-- What Cycles leaves: its list lies in the world behind. -/
def CycRd (w w' : World) (v : Value) (cs : List (Int × Int)) : Prop :=
  ∃ a c, v = .slice a cs.length c ∧ Rd encPair 2 w' w'.heap.size a cs.length cs ∧ Below w.heap.size w w'

theorem rd_row {w : World} {base : Nat} {e : TypeId} {v : Value} {cs : List (Int × Int)} (h : w.ownsRow base e 2 v cs.length (cs.flatMap encPair)) (hl : cs.length ≤ 1000000) : ∃ a c, v = .slice a cs.length c ∧ Rd encPair 2 w w.heap.size a cs.length cs := by
  rcases h.2 with ⟨h1, h2⟩ | ⟨g, cap, cur, h1, _, h3, _, _, _, h7⟩
  · exact ⟨none, 0, by rw [h1, h2], rfl, by omega, 0, 0, fun h => by omega, fun j hj => by omega⟩
  · refine ⟨_, cap, h1, rfl, by omega, g, 0, fun _ => ⟨rfl, (Array.getElem?_eq_some_iff.1 h3).1⟩, fun j hj i u hu => ?_⟩
    have h8 := flat_cells encPair 2 (fun _ => rfl) cs j i u hj hu
    rw [← h7] at h8
    have hlt := (List.getElem?_eq_some_iff.1 h8).1
    rw [List.getElem?_take_of_lt (by rw [List.length_take] at hlt; omega)] at h8
    simp only [World.cell?, h3, Nat.zero_add]
    simpa using h8

theorem Cycles_any (zs : List Int) (a : Option Addr) (n c : Nat) (w : World) (B : Nat) (hB : B ≤ w.heap.size) (hR : Rd encInt 1 w B a n zs) (cs : List (Int × Int)) (hcs : cycP zs = cs) (nc : Nat) (hnc : cs.length = nc) (he : seriesE zs = 0) :
    Calls Tryd.prog 19 #[.slice a n c] w fun e w' => ∃ a' c', e = .returned (.tuple #[.slice a' nc c', .int .i64 0]) ∧ Rd encPair 2 w' w'.heap.size a' nc cs ∧ Below w.heap.size w w' := by
  subst hcs
  subst hnc
  refine (cycles_ok zs a n c w B hB hR he).mono ?_
  rintro e w' ⟨v, rfl, hr, _, hb⟩
  have hl : (cycP zs).length ≤ 1000000 := by have := cycP_len zs; have := (loads_of he).1; omega
  obtain ⟨a', c', rfl, h⟩ := rd_row hr hl
  exact ⟨a', c', rfl, h, hb⟩

theorem samePairs_q (xs ys : List (Int × Int)) (a a2 : Option Addr) (n c n2 c2 : Nat) (w : World) (B : Nat) (hB : B ≤ w.heap.size) (h1 : Rd encPair 2 w B a n xs) (h2 : Rd encPair 2 w B a2 n2 ys) (b : Bool) (hb : decide (xs = ys) = b) :
    Calls Tryd.prog 21 #[.slice a n c, .slice a2 n2 c2] w fun e w' => e = .returned (.bool b) ∧ Below w.heap.size w w' := by
  subst hb; exact samePairs_any xs ys a a2 n c n2 c2 w B hB h1 h2

set_option maxRecDepth 100000 in
set_option maxHeartbeats 2000000 in
theorem works_any (w : World) (hG : Glb w w.heap.size) :
    Calls Tryd.prog 18 #[] w fun e w' => e = .returned (.bool true) ∧ Below w.heap.size w w' := by
  have HG := Lib.hid hG
  clear hG
  go_enter Tryd.func18, Tryd.ntmps18
  go_wp2_with (first
    | (go_at_call 61; refine (example_any _).mono ?_; rintro e w1 ⟨ka, pa, oa, la, rfl, hr, hl, hb⟩; have G1 := Lib.hid (And.intro hr (And.intro hl hb)); clear hr hl hb))
  have hb1 := G1.out.2.2
  have gv : Given (w1.alloc (.cells #[.slice ka 2 2, .slice pa 4 4, .int .i64 1, .slice oa 1 1] 38)) w1.heap.size ka pa oa la 2 4 1 4 exR exL :=
    ⟨by rw [World.size_alloc]; omega, ((HG.out.below hb1).up hb1.size).below ((Below.refl _ _).alloc (Nat.le_refl _) _), G1.out.1.below ((Below.refl _ _).alloc (Nat.le_refl _) _), G1.out.2.1.below ((Below.refl _ _).alloc (Nat.le_refl _) _)⟩
  have GV := Lib.hid gv
  have HB1 := Lib.hid hb1
  clear gv hb1 G1 HG
  go_wp2_with (go_at_call 23; refine (Longest_any GV.out 0 2 (6, 0) ex_longest 1 rfl).mono ?_; rintro e w3 ⟨rfl, hb3⟩; have HB3 := Lib.hid hb3; clear hb3)
  have rd5 : Rd encInt 1 (w3.alloc (.cells #[.int .i64 0, .int .i64 5, .int .i64 2, .int .i64 4, .int .i64 1, .int .i64 6, .int .i64 0] 3)) (w3.heap.size + 1) (some ⟨w3.heap.size, 0, none⟩) 7 [0, 5, 2, 4, 1, 6, 0] :=
    rd_block (enc := encInt) (k := 1) (xs := [0, 5, 2, 4, 1, 6, 0]) (cs := #[.int .i64 0, .int .i64 5, .int .i64 2, .int .i64 4, .int .i64 1, .int .i64 6, .int .i64 0]) (b := w3.heap.size) (fun _ => rfl) (heap_alloc_new w3 _) rfl (Nat.lt_succ_self _) 7 rfl (by omega)
  have RD5 := Lib.hid rd5
  clear rd5
  go_wp2_with (go_at_call 19; refine (Cycles_any [0, 5, 2, 4, 1, 6, 0] _ 7 7 _ (w3.heap.size + 1) (by rw [World.size_alloc]; omega) RD5.out _ ex_cycles 4 rfl ex_series).mono ?_; rintro e w4 ⟨a4, c4, rfl, hr4, hb4⟩; have HR4 := Lib.hid hr4; have HB4 := Lib.hid hb4; clear hr4 hb4)
  have rd6 : Rd encPair 2 (w4.alloc (.cells #[.int .i64 2, .int .i64 2, .int .i64 4, .int .i64 2, .int .i64 6, .int .i64 1, .int .i64 6, .int .i64 1] 30)) (w4.heap.size + 1) (some ⟨w4.heap.size, 0, none⟩) 4 [(2, 2), (4, 2), (6, 1), (6, 1)] :=
    rd_block (enc := encPair) (k := 2) (xs := [(2, 2), (4, 2), (6, 1), (6, 1)]) (cs := #[.int .i64 2, .int .i64 2, .int .i64 4, .int .i64 2, .int .i64 6, .int .i64 1, .int .i64 6, .int .i64 1]) (b := w4.heap.size) (fun _ => rfl) (heap_alloc_new w4 _) rfl (Nat.lt_succ_self _) 4 rfl (by omega)
  have RD6 := Lib.hid rd6
  have rd7 : Rd encPair 2 (w4.alloc (.cells #[.int .i64 2, .int .i64 2, .int .i64 4, .int .i64 2, .int .i64 6, .int .i64 1, .int .i64 6, .int .i64 1] 30)) (w4.heap.size + 1) a4 4 [(2, 2), (4, 2), (6, 1), (6, 1)] :=
    (HR4.out.below ((Below.refl _ _).alloc (Nat.le_refl _) _)).up (Nat.le_succ _)
  have RD7 := Lib.hid rd7
  clear rd6 rd7
  go_wp2_with (go_at_call 21; refine (samePairs_q _ _ _ _ 4 _ 4 _ _ (w4.heap.size + 1) (by rw [World.size_alloc]; omega) RD7.out RD6.out true (by decide)).mono ?_; rintro e w5 ⟨rfl, hb5⟩; have HB5 := Lib.hid hb5; clear hb5)
  go_ret
  refine ⟨rfl, ?_⟩
  have z1 := HB1.out.size
  have b3 := HB3.out
  have z3 := b3.size
  have b4 := HB4.out
  have z4 := b4.size
  have b5 := HB5.out
  rw [World.size_alloc] at z3 z4
  have c1 : Below w.heap.size w (w1.alloc (.cells #[.slice ka 2 2, .slice pa 4 4, .int .i64 1, .slice oa 1 1] 38)) := HB1.out.alloc z1 _
  have c3 := c1.trans (b3.mono (by rw [World.size_alloc]; omega))
  have c4 := (c3.alloc (by omega) (.cells #[.int .i64 0, .int .i64 5, .int .i64 2, .int .i64 4, .int .i64 1, .int .i64 6, .int .i64 0] 3)).trans (b4.mono (by rw [World.size_alloc]; omega))
  exact (c4.alloc (by omega) _).trans (b5.mono (by rw [World.size_alloc]; omega))
end Go.Proofs.YtchnhjffpldpiaaDoor
