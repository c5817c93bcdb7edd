/- Inside a fence: a region that draws its order, whose first n operations only read (or call what only reads) and are all waited for by the n-th; from the n-th on they come one at a time. No program. -/
import Derived.Sort.QuietIn
import Derived.StillTail
import Derived.OrdersIn
namespace Go.Proofs.YtchnhjffpldpiaaDoor
open Go

section
variable {F : Fence} {m : Nat} {P : Program} {ops pops : Array Oper} {Q : Exit → Act → World → Prop} {md : Region.Mode}

def headB (md : Region.Mode) (ops : Array Oper) (n : Nat) : Bool :=
  (Region.sinkB md ops n && Region.chainB md ops n && decide (n < ops.size)) &&
  (List.range n).all fun j => match ops[j]? with
    | none => true
    | some o => (o.after.all fun e => !Region.binds md e || decide (e.on < j)) && (match o.guard with | none => true | some (g, _) => decide (g < n))

/-- Behind the head: the rest, from whatever listing says that the head is listed. -/
def HeadQ (F : Fence) (m : Nat) (P : Program) (md : Region.Mode) (ops : Array Oper) (n : Nat) (Q : Exit → Act → World → Prop) : Exit → Act → World → Prop
  | .normal, a, w => ∀ listed : Array Bool, listed.size = ops.size → (∀ i, i < n → listed.getD i true = true) → (∀ i, n ≤ i → i < ops.size → listed.getD i true = false) → wpAnyIn F m P md ops Q (ops.size - n) listed a w
  | e, a, w => Q e a w

theorem wpAnyIn_more : ∀ (fuel : Nat) (listed : Array Bool) (a : Act) (w : World), wpAnyIn F m P md ops Q fuel listed a w → wpAnyIn F m P md ops Q (fuel + 1) listed a w
  | 0, _, _, _, h => wpAnyIn_done h.1 h.2 1
  | fuel + 1, _, _, _, h => ⟨h.1, fun i hi => wpOpIn_mono (fun a' w' h' => wpAnyIn_more fuel _ a' w' h') (h.2 i hi)⟩
theorem wpAnyIn_more' (c : Nat) {fuel : Nat} {listed : Array Bool} {a : Act} {w : World} (h : wpAnyIn F m P md ops Q fuel listed a w) : wpAnyIn F m P md ops Q (c + fuel) listed a w := by
  induction c with
  | zero => rwa [Nat.zero_add]
  | succ c ih => rw [Nat.succ_add]; exact wpAnyIn_more _ _ _ _ ih

theorem oper_wpIn_headQ {o : Oper} {a : Act} {w : World} {n : Nat} {K K' : Act → World → Prop} (hK : ∀ a w, K a w → K' a w) (hh : o.wpIn F m P a w K (HeadQ F m P md ops n Q)) : o.wpIn F m P a w K' Q := by
  unfold Oper.wpIn at *
  refine ⟨hh.1, ?_⟩
  have hh := hh.2
  generalize (o.semAt F.round a.eval).run P w = r at *
  cases r with
  | ok x w' =>
    cases x <;> simp only [Oper.uponIn] at hh ⊢ <;>
      first
        | exact hK _ _ hh
        | exact ⟨hh.1, CallsIn.mono hh.2 (fun e w'' he => by cases e <;> first | exact hK _ _ he | exact he)⟩
        | exact ⟨hh.1, RowsIn.mono hh.2 (fun _ _ he => hK _ _ he)⟩
        | exact ⟨hh.1, RoundIn.mono hh.2 (fun e w'' he => by cases e <;> first | exact hK _ _ he | exact he)⟩
        | exact hh
  | halt x w' => cases x <;> simp only [Oper.uponIn] at hh ⊢ <;> exact hh

theorem getD_tf {l : Array Bool} {i : Nat} (hi : i < l.size) : l.getD i true = l.getD i false := by
  simp [Array.getD, hi]

theorem wpAnyIn_head {n : Nat} (hB : headB md ops n = true) (hp : ∀ j, j < n → pops[j]? = ops[j]?) (hps : pops.size = n) : ∀ (fuel : Nat) (lp listed : Array Bool) (a : Act) (w : World), HeadInv md ops n listed → lp.size = n → (∀ i, i < n → lp.getD i true = listed.getD i true) →
    wpAnyIn F m P md pops (HeadQ F m P md ops n Q) fuel lp a w → wpAnyIn F m P md ops Q (fuel + (ops.size - n)) listed a w := by
  simp only [headB, Bool.and_eq_true, decide_eq_true_eq] at hB
  obtain ⟨⟨⟨hs, hc⟩, hn⟩, hedge⟩ := hB
  simp only [List.all_eq_true, List.mem_range] at hedge
  have edge : ∀ j o, j < n → ops[j]? = some o → ∀ e ∈ o.after, Region.binds md e = true → e.on < j := by
    intro j o hj ho e he hb
    have := hedge j hj
    rw [ho] at this
    simp only [Bool.and_eq_true] at this
    have h2 := Array.all_eq_true_iff_forall_mem.1 this.1 e he
    simpa [hb] using h2
  have guard : ∀ j o, j < n → ops[j]? = some o → ∀ g b, o.guard = some (g, b) → g < n := by
    intro j o hj ho g b hg
    have := hedge j hj
    rw [ho] at this
    simp only [Bool.and_eq_true, hg] at this
    simpa using this.2
  have pout : ∀ j, n ≤ j → pops[j]? = none := fun j hj => Array.getElem?_eq_none (by omega)
  have hy : ∀ (tmps : Array Value) j, j < n → yielded pops tmps j = yielded ops tmps j := by
    intro tmps j hj
    unfold yielded
    rw [hp j hj]
  have hready : ∀ lp listed : Array Bool, lp.size = n → listed.size = ops.size → (∀ i, i < n → lp.getD i true = listed.getD i true) → ∀ j, j < n → (j ∈ Region.ready md pops lp ↔ j ∈ Region.ready md ops listed) := by
    intro lp listed h1 h1' h2 j hj
    rw [mem_ready, mem_ready, hp j hj, h2 j hj]
    have : ∀ o, ops[j]? = some o → ((∀ e ∈ o.after, Region.binds md e = true → lp.getD e.on false = true) ↔ (∀ e ∈ o.after, Region.binds md e = true → listed.getD e.on false = true)) := by
      intro o ho
      have key : ∀ e ∈ o.after, Region.binds md e = true → lp.getD e.on false = listed.getD e.on false := by
        intro e he hb
        have hlt := edge j o hj ho e he hb
        rw [← getD_tf (by omega), ← getD_tf (by omega)]
        exact h2 _ (by omega)
      exact ⟨fun h e he hb => by rw [← key e he hb]; exact h e he hb, fun h e he hb => by rw [key e he hb]; exact h e he hb⟩
    constructor
    · rintro ⟨a1, o, a2, a3⟩; exact ⟨a1, o, a2, (this o a2).1 a3⟩
    · rintro ⟨a1, o, a2, a3⟩; exact ⟨a1, o, a2, (this o a2).2 a3⟩
  -- where some of the head is not listed something may come up
  have hsome : ∀ listed : Array Bool, listed.size = ops.size → ∀ k j, j ≤ k → j < n → listed.getD j true = false → ∃ i, i < n ∧ i ∈ Region.ready md ops listed := by
    intro listed hsz k
    induction k with
    | zero =>
      intro j hj hjn hu
      have : j = 0 := by omega
      subst this
      obtain ⟨o, ho⟩ : ∃ o, ops[0]? = some o := ⟨_, Array.getElem?_eq_getElem (by omega)⟩
      exact ⟨0, hjn, mem_ready.2 ⟨hu, o, ho, fun e he hb => absurd (edge 0 o hjn ho e he hb) (by omega)⟩⟩
    | succ k ih =>
      intro j hj hjn hu
      by_cases hex : ∃ i, i < j ∧ listed.getD i true = false
      · obtain ⟨i, hi, hu'⟩ := hex
        exact ih i (by omega) (by omega) hu'
      · obtain ⟨o, ho⟩ : ∃ o, ops[j]? = some o := ⟨_, Array.getElem?_eq_getElem (by omega)⟩
        refine ⟨j, hjn, mem_ready.2 ⟨hu, o, ho, fun e he hb => ?_⟩⟩
        have h2 := edge j o hjn ho e he hb
        have h3 : ¬ listed.getD e.on true = false := fun h => hex ⟨e.on, h2, h⟩
        rw [← getD_tf (by omega)]
        simpa using h3
  intro fuel
  induction fuel with
  | zero =>
    intro lp listed a w inv hlp hag h
    by_cases hall : ∃ i, i < n ∧ listed.getD i true = false
    · obtain ⟨i, hi, hu⟩ := hall
      obtain ⟨j, hj, hr⟩ := hsome listed inv.size i i (Nat.le_refl _) hi hu
      have := (hready lp listed hlp inv.size hag j hj).2 hr
      rw [h.1] at this; cases this
    · exact wpAnyIn_more' 0 (h.2 listed inv.size (fun i hi => by
        cases hl : listed.getD i true with
        | true => rfl
        | false => exact absurd ⟨i, hi, hl⟩ hall) inv.tail)
  | succ fuel ih =>
    intro lp listed a w inv hlp hag h
    by_cases hall : ∃ i, i < n ∧ listed.getD i true = false
    · obtain ⟨i, hi, hu⟩ := hall
      obtain ⟨j0, hj0, hr0⟩ := hsome listed inv.size i i (Nat.le_refl _) hi hu
      rw [Nat.succ_add]
      refine ⟨fun h0 => (by rw [h0] at hr0; cases hr0), fun j hj => ?_⟩
      have hjn : j < n := by
        rcases Nat.lt_or_ge j n with h1 | h1
        · exact h1
        · exact absurd hj (tail_waits hs hc hn inv _ i rfl hi hu j h1)
      have h2 := h.2 j ((hready lp listed hlp inv.size hag j hjn).2 hj)
      have hK : ∀ a' w', wpAnyIn F m P md pops (HeadQ F m P md ops n Q) fuel (lp.setIfInBounds j true) a' w' → wpAnyIn F m P md ops Q (fuel + (ops.size - n)) (listed.setIfInBounds j true) a' w' := by
        intro a' w' h'
        refine ih _ _ a' w' (inv.set hj hjn) (by simpa using hlp) (fun i hi => ?_) h'
        by_cases e : j = i
        · subst e
          have e1 : j < lp.size := by omega
          have e2 : j < listed.size := by rw [inv.size]; omega
          simp [Array.getD, e1, e2]
        · rw [getD_set_ne true e, getD_set_ne true e]; exact hag i hi
      obtain ⟨o, ho⟩ : ∃ o, ops[j]? = some o := ⟨_, Array.getElem?_eq_getElem (by omega)⟩
      have hw : Region.wanted o (yielded pops a.tmps) = Region.wanted o (yielded ops a.tmps) := by
        unfold Region.wanted
        cases hg : o.guard with
        | none => rfl
        | some gb =>
          obtain ⟨g, b⟩ := gb
          simp only
          rw [hy a.tmps g (guard j o hjn ho g b hg)]
      unfold wpOpIn at h2 ⊢
      rw [hp j hjn, ho] at h2
      rw [ho]
      simp only [hw] at h2 ⊢
      by_cases hww : Region.wanted o (yielded ops a.tmps) = true
      · rw [if_pos hww] at h2 ⊢
        exact oper_wpIn_headQ hK h2
      · rw [if_neg hww] at h2 ⊢
        exact ⟨h2.1, hK _ _ h2.2⟩
    · have hr : Region.ready md pops lp = [] := by
        refine List.eq_nil_iff_forall_not_mem.2 fun j hj => ?_
        obtain ⟨hu, o, ho, _⟩ := mem_ready.1 hj
        have hjn : j < n := by rw [← hps]; exact (Array.getElem?_eq_some_iff.1 ho).1
        exact hall ⟨j, hjn, by rw [← hag j hjn]; exact hu⟩
      exact wpAnyIn_more' (fuel + 1) (h.1 hr listed inv.size (fun i hi => by
        cases hl : listed.getD i true with
        | true => rfl
        | false => exact absurd ⟨i, hi, hl⟩ hall) inv.tail)

theorem wpIn_region_head {id : Nat} {a : Act} {w : World} {L : List Oper} (n : Nat) (hro : F.round = none) (hm : P.follows .mixedOrders = true) (hB : headB .any L.toArray n = true) (hL : Region.lexB .any (L.take n).toArray = true) (hn : n ≤ L.length)
    (h : wpQuietIn F m P (L.take n).toArray (fun w' => ∃ q, w' = w.drewN q) (fun a' => ∀ w', (∃ q, w' = w.drewN q) → wpAnyIn F m P .any L.toArray Q (L.length - n) (List.replicate n true ++ List.replicate (L.length - n) false).toArray a' w') (L.take n) a) :
    (Code.region id L.toArray true).wpIn F m P Q a w := by
  refine wpIn_region_any hm ?_
  simp only [Region.lexB, Bool.and_eq_true] at hL
  have hlen : (L.take n).length = n := by rw [List.length_take]; omega
  have hq : wpAnyIn F m P .any (L.take n).toArray (HeadQ F m P .any L.toArray n Q) n (Array.replicate n false) a { w with drawn := w.drawn + 1 } := by
    have h1 := wpAnyQIn_lex (F := F) (n := m) (C := fun w' => ∃ q, w' = w.drewN q) (md := .any) hL.1 (L.take n) 0 (Array.replicate n false) a (by intro j; simp) (by have := hL.2; simpa [hlen] using this) h
    rw [hlen] at h1
    refine wpAnyIn_of_quiet hro (fun a' w' hw' hh => ?_) _ _ _ _ ⟨1, rfl⟩ h1
    intro listed hsz ht hf
    have e : listed = (List.replicate n true ++ List.replicate (L.length - n) false).toArray := by
      apply Array.ext
      · simp at hsz ⊢; omega
      · intro i h1 h2
        have hsz' : listed.size = L.length := by simpa using hsz
        by_cases hi : i < n
        · have := ht i hi
          simp only [Array.getD, h1, dif_pos] at this
          have e2 : (List.replicate n true ++ List.replicate (L.length - n) false).toArray[i] = true := by
            simp [List.getElem_append_left, hi]
          rw [e2]; exact this
        · have := hf i (by omega) (by simp; omega)
          simp only [Array.getD, h1, dif_pos] at this
          have e2 : (List.replicate n true ++ List.replicate (L.length - n) false).toArray[i] = false := by
            simp [List.getElem_append_right, Nat.le_of_not_lt hi]
          rw [e2]; exact this
    rw [e]
    exact hh w' hw'
  have := wpAnyIn_head (F := F) (m := m) (P := P) (Q := Q) hB (pops := (L.take n).toArray) (fun j hj => by simp [List.getElem?_take_of_lt hj]) (by simp; omega) n (Array.replicate n false) (Array.replicate L.toArray.size false) a _ ⟨by simp, fun j oj _ h => (by rw [getD_replicate_false] at h; cases h), fun t _ ht => getD_in (by simpa using ht) (getD_replicate_false _ _)⟩ (by simp) (fun i hi => by
      have h1 : (Array.replicate n false).getD i true = false := getD_in (by simpa using hi) (getD_replicate_false _ _)
      have h2 : (Array.replicate L.toArray.size false).getD i true = false := getD_in (by simp; omega) (getD_replicate_false _ _)
      rw [h1, h2]) hq
  have hs : n + (L.toArray.size - n) = L.toArray.size := by simp; omega
  rw [hs] at this
  exact this

/-- The one operation that may come up, and is wanted. -/
theorem wpAnyIn_one {e : Nat} {o : Oper} {fuel : Nat} {listed : Array Bool} {a : Act} {w : World} (hr : Region.ready md ops listed = [e]) (ho : ops[e]? = some o) (hw : Region.wanted o (yielded ops a.tmps) = true)
    (h : ∀ K : Act → World → Prop, (∀ a' w', wpAnyIn F m P md ops Q fuel (listed.setIfInBounds e true) a' w' → K a' w') → o.wpIn F m P a w K Q) : wpAnyIn F m P md ops Q (fuel + 1) listed a w := by
  refine wpAnyIn_all hr (by simp) fun i hi => ?_
  have hi' : i = e := by simpa using hi
  subst hi'
  unfold wpOpIn
  simp only [ho]
  rw [if_pos hw]
  exact h _ fun a' w' h1 => h1
end
end Go.Proofs.YtchnhjffpldpiaaDoor
