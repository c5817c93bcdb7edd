/- Bel, Last, NewH, Fit, Keep, H6, H7, Mem3, H8. -/
import Derived.Test.YtchnhjffpldpiaaDoorMA
import Derived.Deep.QuietTactic
import Derived.BigQuiet
import Derived.OrdersHeld
import Derived.StillTail
import Derived.Deep.AppendLies
import Derived.Test.YtchnhjffpldpiaaDoorMC
import Derived.Deep.DeepCutAuto
import Derived.Deep.RegionHeld3
import Derived.Deep.RegionLaw
import Derived.Deep.DrawnRows
import Derived.BigRegion
import Derived.Maps.AppendAt
import Derived.StillTailTactics
/- A region that draws its order and whose operations read, or call functions that make memory: walked once, in the order of the text, over the class of worlds that keep what lay. -/
namespace Go.Proofs.YtchnhjffpldpiaaDoor
open Go.RowKit

/-- The worlds in which all that lay in w lies as it lay. -/
def Bel (w : World) := { W : World // Below w.heap.size w W }
instance (w : World) : Nonempty (Bel w) := ⟨⟨w, Below.refl _ _⟩⟩
theorem Bel.bel {w : World} (x : Bel w) : Below w.heap.size w x.1 := x.2

theorem wp_region_below {P : Program} {id : Nat} {Q : Exit → Act → World → Prop} {a : Act} {w : World} {l : List Oper} (hm : P.follows .mixedOrders = true) (hB : Region.lexB .any l.toArray = true)
    (h : wpQuiet P l.toArray (fun w' => ∃ x : Bel w, w' = x.1) (fun a' => ∀ w', (∃ x : Bel w, w' = x.1) → Q .normal a' w') l a) : (Code.region id l.toArray true).wp P Q a w :=
  wp_region_quiet (C := fun w' => ∃ x : Bel w, w' = x.1) hm hB ⟨⟨_, (Below.refl _ w).drew⟩, rfl⟩ (by simpa using h)

theorem Calls_bel {P : Program} {f : FuncId} {args : Array Value} {w : World} {v : Value} (x : Bel w)
    (h : Calls P f args x.1 fun e w' => e = .returned v ∧ Below x.1.heap.size x.1 w') : Calls P f args x.1 fun e w'' => e = .returned v ∧ ∃ y : Bel w, w'' = y.1 :=
  h.mono fun _ w' ⟨he, hb⟩ => ⟨he, ⟨w', x.2.trans (hb.mono x.2.size)⟩, rfl⟩
theorem Calls_bel_same {P : Program} {f : FuncId} {args : Array Value} {w : World} {v : Value} (x : Bel w)
    (h : Calls P f args x.1 fun e w' => e = .returned v ∧ x.1 = w') : Calls P f args x.1 fun e w'' => e = .returned v ∧ ∃ y : Bel w, w'' = y.1 :=
  h.mono fun _ _ ⟨he, hb⟩ => ⟨he, x, hb.symm⟩

end Go.Proofs.YtchnhjffpldpiaaDoor

/- Regions that draw their order and whose LAST operation writes what the others read: the others are walked under one condition on the world, the last one is carried out at the end. -/
namespace Go.Proofs.YtchnhjffpldpiaaDoor
open Go.RowKit

section
variable {P : Program} {Q : Exit → Act → World → Prop} {md : Region.Mode} {S : World → Prop}

/-- Operations that yield a value and nothing else. -/
def pureOp : Op → Bool
  | .move _ | .assign _ | .pick .. | .build .. | .load .. | .binOp .. | .unOp .. | .convert .. | .fieldAddr .. | .field .. | .indexAddr .. | .index .. | .extract .. | .slice .. | .nilCheck _ => true
  | .call c => match c.callee with
    | .builtin .len => true
    | _ => false
  | _ => false

theorem andThen_value {s : Sem Value} {w w' : World} {n : Next} (h : (s >>= fun x => pure (Next.value x)).run P w = .ok n w') : ∃ u, n = .value u := by
  rw [Sem.run_bind] at h
  cases hr : s.run P w with
  | ok x w1 =>
    rw [hr] at h
    simp only [Result.andThen_ok, Sem.run_pure, Result.ok.injEq] at h
    exact ⟨x, h.1.symm⟩
  | halt x w1 => rw [hr] at h; simp [Result.andThen] at h

theorem andThen_value' {α : Type} {s : Sem α} {f : α → Value} {w w' : World} {n : Next} (h : (s >>= fun x => pure (Next.value (f x))).run P w = .ok n w') : ∃ u, n = .value u := by
  rw [Sem.run_bind] at h
  cases hr : s.run P w with
  | ok x w1 =>
    rw [hr] at h
    simp only [Result.andThen_ok, Sem.run_pure, Result.ok.injEq] at h
    exact ⟨f x, h.1.symm⟩
  | halt x w1 => rw [hr] at h; simp [Result.andThen] at h

theorem pureOp_value {o : Oper} (ho : pureOp o.op = true) {ρ : Operand → Value} {w w' : World} {n : Next} (h : (execOp ρ o).run P w = .ok n w') : ∃ u, n = .value u := by
  unfold execOp at h
  cases hop : o.op <;> simp only [hop, pureOp] at h ho <;> first
    | (cases ho; done)
    | exact andThen_value h
    | exact andThen_value' h
    | (simp only [Sem.run_pure, Result.ok.injEq] at h; exact ⟨_, h.1.symm⟩)
    | skip
  case call c =>
    obtain ⟨callee, args, ats⟩ := c
    cases callee with
    | builtin b =>
      cases b <;> first
        | (cases ho; done)
        | skip
      simp only [resolve, invoke, builtin, Sem.run_bind, Sem.run_pure, Result.andThen_ok] at h
      generalize Sem.run P _ w = r at h
      cases r with
      | ok x w1 =>
        simp only [Result.andThen_ok, Result.ok.injEq] at h
        exact ⟨x, h.1.symm⟩
      | halt x w1 => simp [Result.andThen] at h
    | _ => cases ho
  rename_i x
  have hp : ∀ (w w' : World) (n : Next), (runtimePanic (α := Next) .nilDeref).run P w = .ok n w' → False := by
    intro w w' n h
    simp [runtimePanic, goPanic, go_sem] at h
  generalize ρ x = v at h
  split at h
  · exact (hp _ _ _ h).elim
  · exact (hp _ _ _ h).elim
  · exact (hp _ _ _ h).elim
  · split at h
    · exact (hp _ _ _ h).elim
    · simp only [Sem.run_bind] at h
      rename_i t v' _
      generalize hr : Sem.run P program w = r at h
      cases r with
      | halt y w1 => simp [Result.andThen] at h
      | ok p w1 =>
        simp only [Result.andThen_ok] at h
        generalize hr2 : Sem.run P (nilAhead _ _ _ _) w1 = r2 at h
        cases r2 with
        | halt y w2 => simp [Result.andThen] at h
        | ok q w2 =>
          simp only [Result.andThen_ok] at h
          split at h
          · rw [Sem.run_bind] at h
            simp [unsupported, Result.andThen] at h
          · simp only [Sem.run_pure, Result.ok.injEq] at h; exact ⟨_, h.1.symm⟩
    · simp only [Sem.run_pure, Result.ok.injEq] at h; exact ⟨_, h.1.symm⟩
  · simp only [Sem.run_pure, Result.ok.injEq] at h; exact ⟨_, h.1.symm⟩

/-- The listing behind n operations from k on. -/
def listUp (listed : Array Bool) : Nat → Nat → Array Bool
  | _, 0 => listed
  | k, n + 1 => listUp (listed.setIfInBounds k true) (k + 1) n
/-- n operations from k on may each be taken first, in turn. -/
def segB (md : Region.Mode) (ops : Array Oper) : Nat → Nat → Array Bool → Bool
  | 0, _, _ => true
  | n + 1, k, listed => (Region.ready md ops listed).contains k && Region.free md ops listed k && segB md ops n (k + 1) (listed.setIfInBounds k true)

variable {ops : Array Oper}

theorem yieldsIf_of_quiet {o : Oper} (hp : pureOp o.op = true) {a : Act} {v : Value} (h : ∀ w, S w → o.quietAt P a S w v) : ∀ w, S w → (execOp a.eval o).run P w = .ok (.value v) w := by
  intro w hw
  have h1 := h w hw
  unfold Oper.quietAt at h1
  cases hr : (execOp a.eval o).run P w with
  | halt x w1 => rw [hr] at h1; exact h1.elim
  | ok n w1 =>
    obtain ⟨u, rfl⟩ := pureOp_value hp hr
    rw [hr] at h1
    obtain ⟨e1, e2⟩ := h1
    rw [e1, e2]

/-- Operations that only read, taken first in the order of the text. -/
theorem wpAnyH_seg (hs : Region.noSelect ops = true) (hQ : ∀ (c : List PanicEntry) (a : Act) (d : Option Tmp) (v : Value) (w : World), Q (.panic c) (a.put d v) w → Q (.panic c) a w) {w : World} (hS : S w) (fuel : Nat) :
    ∀ (seg : List Oper) (k : Nat) (listed : Array Bool) (a : Act), (∀ j, j < seg.length → seg[j]? = ops[k + j]?) → segB md ops seg.length k listed = true → seg.all (fun o => pureOp o.op) = true →
      wpQuiet P ops S (fun a' => wpAnyH P md ops Q S fuel (listUp listed k seg.length) a' w) seg a → wpAnyH P md ops Q S (fuel + seg.length) listed a w
  | [], _, _, _, _, _, _, h => h
  | o :: seg, k, listed, a, hl, hB, hp, h => by
    have h0 : ops[k]? = some o := by simpa using (hl 0 (by simp)).symm
    simp only [List.length_cons, segB, Bool.and_eq_true] at hB
    simp only [List.all_cons, Bool.and_eq_true] at hp
    have rest : ∀ a', wpQuiet P ops S (fun a' => wpAnyH P md ops Q S fuel (listUp (listed.setIfInBounds k true) (k + 1) seg.length) a' w) seg a' → wpAnyH P md ops Q S (fuel + seg.length) (listed.setIfInBounds k true) a' w :=
      fun a' h' => wpAnyH_seg hs hQ hS fuel seg (k + 1) _ a' (fun j hj => by have := hl (j + 1) (by simp; omega); simpa [Nat.add_assoc, Nat.add_comm 1 j] using this) hB.2 hp.2 h'
    show wpAnyH P md ops Q S ((fuel + seg.length) + 1) listed a w
    unfold wpQuiet at h
    by_cases hw : Region.wanted o (yielded ops a.tmps) = true
    · rw [if_pos hw] at h
      obtain ⟨v, h1, h2⟩ := h
      exact wpAnyH_take h0 hs hB.1.2 hB.1.1 (fun c a w => hQ c a _ _ w) (.inl ⟨hw, yieldsIf_of_quiet hp.1 h1⟩) hS (rest _ h2)
    · rw [if_neg hw] at h
      exact wpAnyH_take h0 hs hB.1.2 hB.1.1 (fun c a w => hQ c a _ _ w) (.inr ⟨by simpa using hw, rfl⟩) hS (rest _ h)

/-- The one operation that may come up. -/
theorem wpAnyH_one {e : Nat} {o : Oper} {fuel : Nat} {listed : Array Bool} {a : Act} {w : World} (hr : Region.ready md ops listed = [e]) (ho : ops[e]? = some o) (hg : o.guard = none)
    (h : ∀ K : Act → World → Prop, (∀ a' w', S w' → wpAnyH P md ops Q S fuel (listed.setIfInBounds e true) a' w' → K a' w') → o.wp P a w K Q) : wpAnyH P md ops Q S (fuel + 1) listed a w := by
  refine wpAnyH_all hr (by simp) fun i hi => ?_
  have hi' : i = e := by simpa using hi
  subst hi'
  unfold wpOp
  simp only [ho]
  rw [if_pos (by simp [Region.wanted, hg])]
  exact .inl (h _ fun a' w' h1 h2 => ⟨h1, h2⟩)

/-- Two operations may come up. -/
theorem wpAnyH_two {e1 e2 : Nat} {o1 o2 : Oper} {fuel : Nat} {listed : Array Bool} {a : Act} {w : World} (hr : Region.ready md ops listed = [e1, e2]) (ho1 : ops[e1]? = some o1) (ho2 : ops[e2]? = some o2) (hg1 : o1.guard = none) (hg2 : o2.guard = none)
    (h1 : ∀ K : Act → World → Prop, (∀ a' w', S w' → wpAnyH P md ops Q S fuel (listed.setIfInBounds e1 true) a' w' → K a' w') → o1.wp P a w K Q)
    (h2 : ∀ K : Act → World → Prop, (∀ a' w', S w' → wpAnyH P md ops Q S fuel (listed.setIfInBounds e2 true) a' w' → K a' w') → o2.wp P a w K Q) : wpAnyH P md ops Q S (fuel + 1) listed a w := by
  refine wpAnyH_all hr (by simp) fun i hi => ?_
  simp only [List.mem_cons, List.not_mem_nil, or_false] at hi
  rcases hi with rfl | rfl
  · unfold wpOp
    simp only [ho1]
    rw [if_pos (by simp [Region.wanted, hg1])]
    exact .inl (h1 _ fun a' w' h1 h2 => ⟨h1, h2⟩)
  · unfold wpOp
    simp only [ho2]
    rw [if_pos (by simp [Region.wanted, hg2])]
    exact .inl (h2 _ fun a' w' h1 h2 => ⟨h1, h2⟩)

/-- n operations from number k on, which only read. -/
theorem wpAnyH_seg_at (hs : Region.noSelect ops = true) (hQ : ∀ (c : List PanicEntry) (a : Act) (d : Option Tmp) (v : Value) (w : World), Q (.panic c) (a.put d v) w → Q (.panic c) a w) {w : World} (hS : S w) (fuel k n : Nat) (listed : Array Bool) (a : Act)
    (hk : k + n ≤ ops.size) (hB : segB md ops n k listed = true) (hp : ((ops.toList.drop k).take n).all (fun o => pureOp o.op) = true)
    (h : wpQuiet P ops S (fun a' => wpAnyH P md ops Q S fuel (listUp listed k n) a' w) ((ops.toList.drop k).take n) a) : wpAnyH P md ops Q S (fuel + n) listed a w := by
  have hl : ((ops.toList.drop k).take n).length = n := by rw [List.length_take, List.length_drop, Array.length_toList]; omega
  have := wpAnyH_seg (P := P) (Q := Q) (md := md) (S := S) hs hQ hS fuel ((ops.toList.drop k).take n) k listed a (by
    intro j hj
    rw [hl] at hj
    rw [List.getElem?_take_of_lt hj, List.getElem?_drop, Array.getElem?_toList]) (by rw [hl]; exact hB) hp (by rw [hl]; exact h)
  rw [hl] at this
  exact this

/-- The operation with nothing to do. -/
def nopOf (o : Oper) : Oper := { o with op := .move (.const (.bool false)) }
/-- The post of the region without its last operation: the last operation is carried out behind it. -/
def LastQ (P : Program) (ops : Array Oper) (n : Nat) (Q : Exit → Act → World → Prop) : Exit → Act → World → Prop
  | .normal, a, w => wpOp P ops Q n (Q .normal) a w
  | e, a, w => Q e a w
/-- The last operation waits, through others, for each other one; each operation waits for earlier ones alone. -/
def lastB (md : Region.Mode) (ops : Array Oper) (n : Nat) : Bool :=
  (Region.sinkB md ops n && Region.chainB md ops n) && (List.range ops.size).all (fun j => match ops[j]? with | none => true | some o => o.after.all fun e => !Region.binds md e || decide (e.on < j))

theorem oper_wp_lastQ {o : Oper} {a : Act} {w : World} {n : Nat} {K K' : Act → World → Prop} (hK : ∀ a w, K a w → K' a w) (h : o.wp P a w K (LastQ P ops n Q)) : o.wp P a w K' Q := by
  unfold Oper.wp at *
  generalize (execOp a.eval o).run P w = r at *
  cases r with
  | halt x w1 => cases x <;> first | exact h | exact h.elim
  | ok x w1 =>
    cases x <;> first
      | exact hK _ _ h
      | exact h.elim
      | skip
    · refine Calls.mono h fun e w2 he => ?_
      cases e with
      | returned v => exact hK _ _ he
      | panicked c => exact he
      | outgrown => exact he
    · exact Rows.mono h fun v w2 he => hK _ _ he

theorem nop_wp {o : Oper} (hd : o.dst = none) {a : Act} {w : World} {K : Act → World → Prop} {Q' : Exit → Act → World → Prop} (h : (nopOf o).wp P a w K Q' ∨ ((nopOf o).asks P a w ∧ LetsOut Q')) : K a w := by
  rcases h with h | h
  · have : (nopOf o).wp P a w K Q' = K (a.put (nopOf o).dst (.bool false)) w := rfl
    rw [this] at h
    simpa [nopOf, hd, Act.put] using h
  · have h1 := h.1.1
    have h2 : noRoomEvent ∈ (#[] : Array Event) := h1
    exact absurd h2 (by simp)

theorem wpAny_last {l : List Oper} {o : Oper} (hd : o.dst = none) (hg : o.guard = none) (hB : lastB md (l ++ [o]).toArray l.length = true) : ∀ (fuel : Nat) (listed : Array Bool) (a : Act) (w : World), HeadInv md (l ++ [o]).toArray l.length listed →
    wpAny P md (l ++ [nopOf o]).toArray (LastQ P (l ++ [o]).toArray l.length Q) fuel listed a w → wpAny P md (l ++ [o]).toArray Q fuel listed a w := by
  simp only [lastB, Bool.and_eq_true] at hB
  have hB' := hB.2
  simp only [List.all_eq_true, List.mem_range] at hB'
  replace hB := And.intro hB.1 hB'
  clear hB'
  obtain ⟨⟨hB1, hB3⟩, hB2⟩ := hB
  have hlt : ∀ j, j < l.length → (l ++ [nopOf o]).toArray[j]? = (l ++ [o]).toArray[j]? := by
    intro j hj
    simp [List.getElem?_append_left hj]
  have hlast : (l ++ [o]).toArray[l.length]? = some o := by simp
  have hlast2 : (l ++ [nopOf o]).toArray[l.length]? = some (nopOf o) := by simp
  have hout : ∀ j, l.length < j → (l ++ [o]).toArray[j]? = none ∧ (l ++ [nopOf o]).toArray[j]? = none := by
    intro j hj
    constructor <;> (simp; omega)
  have hready : ∀ listed j, j ∈ Region.ready md (l ++ [nopOf o]).toArray listed ↔ j ∈ Region.ready md (l ++ [o]).toArray listed := by
    intro listed j
    rw [mem_ready, mem_ready]
    rcases Nat.lt_trichotomy j l.length with h | h | h
    · rw [hlt j h]
    · subst h
      rw [hlast, hlast2]
      simp [nopOf]
    · rw [(hout j h).1, (hout j h).2]
  have hy : ∀ tmps, yielded (l ++ [nopOf o]).toArray tmps = yielded (l ++ [o]).toArray tmps := by
    intro tmps
    funext j
    unfold yielded
    rcases Nat.lt_trichotomy j l.length with h | h | h
    · rw [hlt j h]
    · subst h
      rw [hlast, hlast2]
      rfl
    · rw [(hout j h).1, (hout j h).2]
  -- where the last is not listed something may come up
  have hsome : ∀ listed : Array Bool, listed.size = l.length + 1 → listed.getD l.length true = false → Region.ready md (l ++ [o]).toArray listed ≠ [] := by
    intro listed hsz hun
    have key : ∀ k j, j ≤ k → j ≤ l.length → listed.getD j true = false → ∃ i, i ∈ Region.ready md (l ++ [o]).toArray listed := by
      intro k
      induction k with
      | zero =>
        intro j hj hjl hu
        have hj0 : j = 0 := by omega
        subst hj0
        obtain ⟨oj, hoj⟩ : ∃ oj, (l ++ [o]).toArray[0]? = some oj := ⟨_, Array.getElem?_eq_getElem (by simp)⟩
        refine ⟨0, mem_ready.2 ⟨hu, oj, hoj, fun e he hb => ?_⟩⟩
        have := hB2 0 (by simp)
        simp only [hoj, Array.all_eq_true_iff_forall_mem] at this
        have h2 := this e he
        simp [hb] at h2
      | succ k ih =>
        intro j hj hjl hu
        by_cases hex : ∃ i, i < j ∧ listed.getD i true = false
        · obtain ⟨i, hi, hu'⟩ := hex
          exact ih i (by omega) (by omega) hu'
        · obtain ⟨oj, hoj⟩ : ∃ oj, (l ++ [o]).toArray[j]? = some oj := ⟨_, Array.getElem?_eq_getElem (by simp; omega)⟩
          refine ⟨j, mem_ready.2 ⟨hu, oj, hoj, fun e he hb => ?_⟩⟩
          have := hB2 j (by simp; omega)
          simp only [hoj, Array.all_eq_true_iff_forall_mem] at this
          have h2 := this e he
          simp only [hb, Bool.not_true, Bool.false_or, decide_eq_true_eq] at h2
          have h3 : ¬ listed.getD e.on true = false := fun h => hex ⟨e.on, h2, h⟩
          have h4 : e.on < listed.size := by omega
          simp only [Array.getD, h4, dif_pos] at h3 ⊢
          simpa using h3
    intro e
    obtain ⟨i, hi⟩ := key l.length l.length (Nat.le_refl _) (Nat.le_refl _) hun
    rw [e] at hi
    cases hi
  intro fuel
  induction fuel with
  | zero =>
    intro listed a w inv h
    have hsz : listed.size = l.length + 1 := by rw [inv.size]; simp
    have hun := inv.tail l.length (Nat.le_refl _) (by simp)
    exact absurd (List.eq_nil_iff_forall_not_mem.2 fun i hi => by rw [← hready, h.1] at hi; cases hi) (hsome listed hsz hun)
  | succ fuel ih =>
    intro listed a w inv h
    have hsz : listed.size = l.length + 1 := by rw [inv.size]; simp
    have hun := inv.tail l.length (Nat.le_refl _) (by simp)
    refine ⟨fun h0 => absurd h0 (hsome listed hsz hun), fun i hi => ?_⟩
    have h2 := h.2 i ((hready listed i).2 hi)
    have hil : i ≤ l.length := by
      rcases Nat.lt_or_ge l.length i with h3 | h3
      · obtain ⟨_, oi, hoi, _⟩ := mem_ready.1 hi
        rw [(hout i h3).1] at hoi; cases hoi
      · exact h3
    by_cases hin : i = l.length
    · subst hin
      obtain ⟨_, oi, hoi, hall⟩ := mem_ready.1 hi
      have hoi' : oi = o := Option.some.inj (hoi.symm.trans hlast)
      subst hoi'
      -- all others are listed
      have hl : ∀ j, j < l.length → listed.getD j false = true := by
        intro j hj
        cases hlj : listed.getD j false with
        | true => rfl
        | false => exact absurd hi (tail_waits hB1 hB3 (by simp) inv _ j rfl hj (getD_in (by omega) hlj) l.length (Nat.le_refl _))
      have hdone : ∀ ops' : Array Oper, ops'.size = l.length + 1 → Region.ready md ops' (listed.setIfInBounds l.length true) = [] := by
        intro ops' hs'
        refine List.eq_nil_iff_forall_not_mem.2 fun j hj => ?_
        obtain ⟨hu, oj, hoj, _⟩ := mem_ready.1 hj
        have hjs : j < l.length + 1 := by rw [← hs']; exact (Array.getElem?_eq_some_iff.1 hoj).1
        by_cases hjl : j = l.length
        · subst hjl
          have : l.length < (listed.setIfInBounds l.length true).size := by rw [Array.size_setIfInBounds]; omega
          simp [Array.getD, hsz] at hu
        · have h3 := hl j (by omega)
          rw [getD_set_ne true (Ne.symm hjl)] at hu
          have h4 : j < listed.size := by omega
          simp only [Array.getD, h4, dif_pos] at hu h3
          rw [h3] at hu; cases hu
      unfold wpOp at h2
      simp only [hlast2] at h2
      rw [if_pos (by simp [Region.wanted, nopOf, hg])] at h2
      have h3 := nop_wp hd h2
      have h4 : LastQ P (l ++ [oi]).toArray l.length Q .normal a w := by
        cases fuel with
        | zero => exact h3.2
        | succ f => exact h3.1 (hdone _ (by simp))
      refine wpOp_mono (fun a' w' hq => ?_) h4
      have hd2 := hdone (l ++ [oi]).toArray (by simp)
      cases fuel with
      | zero => exact ⟨hd2, hq⟩
      | succ f => exact ⟨fun _ => hq, by rw [hd2]; simp⟩
    · have hlt' : i < l.length := by omega
      have hK : ∀ a' w', wpAny P md (l ++ [nopOf o]).toArray (LastQ P (l ++ [o]).toArray l.length Q) fuel (listed.setIfInBounds i true) a' w' → wpAny P md (l ++ [o]).toArray Q fuel (listed.setIfInBounds i true) a' w' :=
        fun a' w' h' => ih _ a' w' (inv.set hi hlt') h'
      unfold wpOp at h2 ⊢
      rw [hlt i hlt'] at h2
      cases ho : (l ++ [o]).toArray[i]? with
      | none => rw [ho] at h2; exact hK _ _ h2
      | some oi =>
        rw [ho] at h2
        simp only [hy] at h2 ⊢
        by_cases hw : Region.wanted oi (yielded (l ++ [o]).toArray a.tmps) = true
        · rw [if_pos hw] at h2 ⊢
          rcases h2 with h2 | h2
          · exact .inl (oper_wp_lastQ hK h2)
          · exact .inr h2
        · rw [if_neg hw] at h2 ⊢
          exact hK _ _ h2

/-- **A region whose last operation writes what others read.** -/
theorem wp_region_last {id : Nat} {a : Act} {w : World} {l : List Oper} {o : Oper} (hm : P.follows .mixedOrders = true) (hd : o.dst = none) (hg : o.guard = none) (hB : lastB .any (l ++ [o]).toArray l.length = true)
    (h : wpAnyH P .any (l ++ [nopOf o]).toArray (LastQ P (l ++ [o]).toArray l.length Q) S (l.length + 1) (Array.replicate (l.length + 1) false) a w.drew) : (Code.region id (l ++ [o]).toArray true).wp P Q a w := by
  refine wp_region_any hm ?_
  have hs : (l ++ [o]).toArray.size = l.length + 1 := by simp
  rw [hs]
  have inv0 : HeadInv .any (l ++ [o]).toArray l.length (Array.replicate (l.length + 1) false) :=
    ⟨by simp, fun j oj _ h => (by rw [getD_replicate_false] at h; cases h), fun t _ ht => getD_in (by simpa using ht) (getD_replicate_false _ _)⟩
  exact wpAny_last hd hg hB _ _ _ _ inv0 (wpAny_of_held _ _ _ _ h)

/-- The end: all have come up but the last, which has nothing to do; then the last is carried out. -/
theorem wpAnyH_fin {l : List Oper} {o : Oper} (hd : o.dst = none) (hg : o.guard = none) {listed : Array Bool} {a : Act} {w : World} (hr : Region.ready md (l ++ [nopOf o]).toArray listed = [l.length])
    (hr2 : Region.ready md (l ++ [nopOf o]).toArray (listed.setIfInBounds l.length true) = []) (hS : S w) (h : o.wp P a w (Q .normal) Q) :
    wpAnyH P md (l ++ [nopOf o]).toArray (LastQ P (l ++ [o]).toArray l.length Q) S 1 listed a w := by
  refine wpAnyH_one (e := l.length) (o := nopOf o) hr (by simp) (by simp [nopOf, hg]) fun K hK => ?_
  have : (nopOf o).wp P a w K (LastQ P (l ++ [o]).toArray l.length Q) = K (a.put (nopOf o).dst (.bool false)) w := rfl
  rw [this]
  have he : a.put (nopOf o).dst (.bool false) = a := by simp [nopOf, hd, Act.put]
  rw [he]
  refine hK a w hS ⟨hr2, ?_⟩
  show wpOp P (l ++ [o]).toArray Q l.length (Q .normal) a w
  unfold wpOp
  have : (l ++ [o]).toArray[l.length]? = some o := by simp
  simp only [this]
  rw [if_pos (by simp [Region.wanted, hg])]
  exact .inl h

/-- The same over a literal region: the first k operations only read. -/
theorem wp_region_last_lit {id : Nat} {a : Act} {w : World} {L : Array Oper} (n k fuel : Nat) (S : World → Prop) {o : Oper} (hm : P.follows .mixedOrders = true) (hsz : L.size = n + 1) (h0 : L.toList.drop n = [o]) (hd : o.dst = none) (hg : o.guard = none) (hB : lastB .any L n = true)
    (hf : n + 1 = fuel + k) (hk : k ≤ n) (hs : Region.noSelect (L.toList.take n ++ [nopOf o]).toArray = true) (hsg : segB .any (L.toList.take n ++ [nopOf o]).toArray k 0 (Array.replicate (n + 1) false) = true) (hp : (L.toList.take k).all (fun o => pureOp o.op) = true)
    (hQ : ∀ (c : List PanicEntry) (a : Act) (d : Option Tmp) (v : Value) (w : World), Q (.panic c) (a.put d v) w → Q (.panic c) a w) (hS : S w.drew)
    (h : wpQuiet P (L.toList.take n ++ [nopOf o]).toArray S (fun a' => wpAnyH P .any (L.toList.take n ++ [nopOf o]).toArray (LastQ P L n Q) S fuel (listUp (Array.replicate (n + 1) false) 0 k) a' w.drew) (L.toList.take k) a) : (Code.region id L true).wp P Q a w := by
  have hsz' : L.toList.length = n + 1 := by simpa using hsz
  have ho' : L.toList[n]? = some o := by rw [← List.head?_drop, h0]; rfl
  have hL : L = (L.toList.take n ++ [o]).toArray := by
    apply Array.ext'
    show L.toList = L.toList.take n ++ [o]
    have h1 := List.take_append_drop n L.toList
    rw [h0] at h1
    exact h1.symm
  have hln : (L.toList.take n).length = n := by rw [List.length_take]; omega
  have hlk : (L.toList.take k).length = k := by rw [List.length_take]; omega
  have key : (Code.region id (L.toList.take n ++ [o]).toArray true).wp P Q a w := by
    refine wp_region_last (S := S) hm hd hg (by rw [hln, ← hL]; exact hB) ?_
    rw [← hL, hln, hf]
    have hseg := wpAnyH_seg (P := P) (Q := LastQ P L n Q) (md := .any) (S := S) hs (by intro c a d v w h; exact hQ c a d v w h) hS fuel (L.toList.take k) 0 (Array.replicate (n + 1) false) a (by
      intro j hj
      rw [hlk] at hj
      rw [Nat.zero_add, List.getElem?_take_of_lt hj, List.getElem?_toArray, List.getElem?_append_left (by omega), List.getElem?_take_of_lt (by omega)]) (by rw [hlk]; exact hsg) hp (by rw [hlk]; exact h)
    rw [hlk] at hseg
    rw [← hf]
    rw [← hf] at hseg
    exact hseg
  rw [← hL] at key
  exact key

theorem wpAnyH_fin_lit {ops ops' : Array Oper} {n : Nat} {o : Oper} (ho : ops[n]? = some o) (ho' : ops'[n]? = some (nopOf o)) (hd : o.dst = none) (hg : o.guard = none) {listed : Array Bool} {a : Act} {w : World} (hr : Region.ready md ops' listed = [n])
    (hr2 : Region.ready md ops' (listed.setIfInBounds n true) = []) (hS : S w) (h : o.wp P a w (Q .normal) Q) :
    wpAnyH P md ops' (LastQ P ops n Q) S 1 listed a w := by
  refine wpAnyH_one (e := n) (o := nopOf o) hr ho' (by simp [nopOf, hg]) fun K hK => ?_
  have : (nopOf o).wp P a w K (LastQ P ops n Q) = K (a.put (nopOf o).dst (.bool false)) w := rfl
  rw [this]
  have he : a.put (nopOf o).dst (.bool false) = a := by simp [nopOf, hd, Act.put]
  rw [he]
  refine hK a w hS ⟨hr2, ?_⟩
  show wpOp P ops Q n (Q .normal) a w
  unfold wpOp
  simp only [ho]
  rw [if_pos (by simp [Region.wanted, hg])]
  exact .inl h
end

/-- The worlds with the cells of these places as they lie in w. -/
def Kept (w : World) (l : List Addr) := { W : World // ∀ p ∈ l, W.cell? p = w.cell? p ∧ W.frozen? p = w.frozen? p }
/-- .. as a condition on a world. -/
abbrev KeptAt (w : World) (l : List Addr) : World → Prop := fun W => ∃ x : Kept w l, W = x.1
instance (w : World) (l : List Addr) : Nonempty (Kept w l) := ⟨⟨w, fun _ _ => ⟨rfl, rfl⟩⟩⟩
theorem Kept.cell {w : World} {l : List Addr} (x : Kept w l) {p : Addr} {v : Value} (hp : p ∈ l) (h : w.cell? p = some v) : x.1.cell? p = some v := (x.2 p hp).1.trans h
theorem Kept.frozen {w : World} {l : List Addr} (x : Kept w l) {p : Addr} {b : Bool} (hp : p ∈ l) (h : w.frozen? p = b) : x.1.frozen? p = b := (x.2 p hp).2.trans h
theorem KeptAt.refl (w : World) (l : List Addr) : KeptAt w l w := ⟨⟨w, fun _ _ => ⟨rfl, rfl⟩⟩, rfl⟩
theorem KeptAt.drew {w W : World} {l : List Addr} (h : KeptAt w l W) : KeptAt w l W.drew := by
  obtain ⟨x, rfl⟩ := h
  exact ⟨⟨x.1.drew, x.2⟩, rfl⟩
theorem KeptAt.below {w W W' : World} {l : List Addr} (h : KeptAt w l W) (hl : ∀ p ∈ l, p.block < W.heap.size) (hb : Below W.heap.size W W') : KeptAt w l W' := by
  obtain ⟨x, rfl⟩ := h
  exact ⟨⟨W', fun p hp => ⟨(hb.cell (hl p hp)).trans (x.2 p hp).1, (hb.frozen (hl p hp)).trans (x.2 p hp).2⟩⟩, rfl⟩
theorem KeptAt.grown {w W W' : World} {l : List Addr} {own : Option Nat} (h : KeptAt w l W) (hl : ∀ p ∈ l, p.block < W.heap.size ∧ some p.block ≠ own) (hb : W.grownBy W' own) : KeptAt w l W' := by
  obtain ⟨x, rfl⟩ := h
  exact ⟨⟨W', fun p hp => ⟨(hb.cell_far p (hl p hp).1 (hl p hp).2).trans (x.2 p hp).1, (hb.frozen_far p (hl p hp).1 (hl p hp).2).trans (x.2 p hp).2⟩⟩, rfl⟩

theorem anyH_named {P : Program} {md : Region.Mode} {ops : Array Oper} {Q : Exit → Act → World → Prop} {S : World → Prop} {fuel : Nat} {listed : Array Bool} {a : Act} {w : World} (h : ∀ V, V = w → wpAnyH P md ops Q S fuel listed a V) : wpAnyH P md ops Q S fuel listed a w := h w rfl
end Go.Proofs.YtchnhjffpldpiaaDoor

/- parts.newHangar -/
namespace Go.Proofs.YtchnhjffpldpiaaDoor
open Go.RowKit
attribute [local go_sem ↓] Go.wp_at_zero Go.wp_at_succ

theorem info_int : ((Tryd.prog).info? 3).map (fun i => (i.zero, i.size, i.bytes)) = some (some (.int .i64 0), 1, 8) := by kernel_rfl
theorem info_pp : ((Tryd.prog).info? 112).map (fun i => (i.zero, i.size, i.bytes)) = some (some (.pointer none), 1, 8) := by kernel_rfl
theorem info_bool : ((Tryd.prog).info? 4).map (fun i => (i.zero, i.size, i.bytes)) = some (some (.bool false), 1, 1) := by kernel_rfl
theorem info_spot : ((Tryd.prog).info? 113).map (fun i => (i.zero, i.size, i.bytes)) = some (some (.agg #[.int .i64 0, .int .i64 0]), 2, 16) := by kernel_rfl
theorem info_stretches : ((Tryd.prog).info? 57).map (fun i => (i.zero, i.size, i.bytes)) = some (some (.slice none 0 0), 1, 24) := by kernel_rfl

/-- make([]T, n) at a length that is a variable. -/
theorem mk_run {P : Program} (t e : TypeId) (z : Value) (size bytes : Nat) (ht : P.underlying t = some (.slice e)) (hinfo : (P.info? e).map (fun i => (i.zero, i.size, i.bytes)) = some (some z, size, bytes))
    (n : Nat) (hb : bytes ≤ 1000) (hn : n ≤ 100000000000) (w : World) :
    (Instr.makeSlice t (.int .i64 (n : Int)) (.int .i64 (n : Int))).run P w = .ok (.slice (some ⟨w.heap.size, 0, none⟩) n n) (w.alloc (.cells (madeCells z.cells (n * size)) e)) := by
  obtain ⟨i, hi, hz0, hz1, hz2⟩ := info_parts hinfo
  have hb' : (i.bytes : Int) * (n : Int) ≤ 281474976710656 := by
    have : i.bytes * n ≤ 1000 * 100000000000 := Nat.mul_le_mul (by omega) hn
    have h : ((i.bytes * n : Nat) : Int) ≤ 281474976710656 := by omega
    rwa [Int.natCast_mul] at h
  have := run_make (P := P) w t e i z ht hi hz0 .i64 .i64 n n (by omega) (by omega) hb' (by omega)
  simpa [hz1] using this


theorem made_rep (z : Array Value) (c : Value) (n : Nat) (h : ∀ i, z[i % z.size]! = c) : madeCells z n = (List.replicate n c).toArray := by
  unfold madeCells
  apply Array.ext
  · simp
  · intro i h1 h2
    simp only [Array.getElem_map, h, List.getElem_toArray, List.getElem_replicate]

theorem mk_rep {P : Program} (t e : TypeId) (z : Value) (c : Value) (size bytes : Nat) (ht : P.underlying t = some (.slice e)) (hinfo : (P.info? e).map (fun i => (i.zero, i.size, i.bytes)) = some (some z, size, bytes)) (hc : ∀ i, z.cells[i % z.cells.size]! = c)
    (n : Nat) (hb : bytes ≤ 1000) (hn : n ≤ 100000000000) (w : World) :
    (Instr.makeSlice t (.int .i64 (n : Int)) (.int .i64 (n : Int))).run P w = .ok (.slice (some ⟨w.heap.size, 0, none⟩) n n) (w.alloc (.cells (List.replicate (n * size) c).toArray e)) := by
  rw [mk_run t e z size bytes ht hinfo n hb hn w, made_rep _ _ _ hc]

theorem one_cell {z c : Value} (h : z.cells = #[c]) : ∀ i : Nat, z.cells[i % z.cells.size]! = c := by
  intro i
  rw [h]
  simp [Nat.mod_one]
theorem two_cells : ∀ i : Nat, (Value.agg #[Value.int .i64 0, .int .i64 0]).cells[i % (Value.agg #[Value.int .i64 0, .int .i64 0]).cells.size]! = Value.int .i64 0 := by
  intro i
  have e : (Value.agg #[Value.int .i64 0, .int .i64 0]).cells = #[Value.int .i64 0, .int .i64 0] := by rfl
  rw [e]
  have : i % 2 = 0 ∨ i % 2 = 1 := by omega
  rcases this with h | h <;> simp [h]

theorem below_alloc5 {w : World} (o0 o1 o2 o3 o4 : Obj) : Below w.heap.size w (((((w.alloc o0).alloc o1).alloc o2).alloc o3).alloc o4).drew := by
  refine Below.drew (Below.alloc (Below.alloc (Below.alloc (Below.alloc (Below.alloc (Below.refl _ _) (Nat.le_refl _) _) ?_ _) ?_ _) ?_ _) ?_ _) <;> simp only [World.size_alloc] <;> omega
theorem below_alloc2 {w : World} (o0 o1 : Obj) : Below w.heap.size w ((w.alloc o0).alloc o1).drew := by
  refine Below.drew (Below.alloc (Below.alloc (Below.refl _ _) (Nat.le_refl _) _) ?_ _)
  simp only [World.size_alloc]; omega

theorem own_partsV {L : HL} {k b : Nat} (h : (partsV L k).ownBlock = some b) : b = L.pr ∧ 0 < k := by
  unfold partsV at h
  split at h
  · simp [Value.ownBlock] at h
  · simp [Value.ownBlock] at h
    exact ⟨h.symm, by omega⟩

/-- A round of newHangar behind its append. -/
theorem next_round {w wr W V w4 : World} {r : RegR} {L : HL} {k hb s0 c0 g cap no np pc oc : Nat} {pk phr pcy : Int} {pkn : Bool} {ka pa oa : Option Addr} {pv : Value}
    (hP : PartH W (w.heap.size + 1) L r k) (hL : L.hb = hb ∧ L.ka = ka ∧ L.pa = pa ∧ L.oa = oa) (hR : wr.cell? ⟨w.heap.size, 1, none⟩ = some (.slice pa np pc) ∧ wr.cell? ⟨w.heap.size, 3, none⟩ = some (.slice oa no oc))
    (hB : Below w.heap.size w wr) (bW : Below wr.heap.size wr W) (hlw : w.heap.size < wr.heap.size) (bV : Below W.heap.size W V) (vz : V.heap.size = W.heap.size + 2) (hno : r.orders.length = no)
    (hs : V.heap[s0]? = some (.cells (Array.replicate no (.int .i64 0)) 3 (0, 0))) (hc : V.heap[c0]? = some (.cells (Array.replicate no (.bool false)) 4 (0, 0)))
    (ls : W.heap.size ≤ s0) (lc : W.heap.size ≤ c0) (n1 : s0 ≠ c0) (hp : r.parts[k]! = ⟨pk, phr, pcy, pkn⟩) (hpv : partsV L k = pv)
    (O : w4.ownsRow (w.heap.size + 1) 112 1 (.slice (some ⟨g, 0, none⟩) (k + 1) cap) (k + 1) ((List.range k).map (fun i => Value.pointer (some ⟨L.pb i, 0, none⟩)) ++ [.pointer (some ⟨W.heap.size + 2, 0, none⟩)]))
    (G : ((V.alloc (Obj.cells #[.int .i64 pk, .int .i64 phr, .int .i64 pcy, .bool pkn, .int .i64 (-1), .int .i64 (-1), .slice (some ⟨s0, 0, none⟩) no no, .slice (some ⟨c0, 0, none⟩) no no] 116)).alloc (Obj.cells #[.pointer (some ⟨W.heap.size + 2, 0, none⟩)] 112)).grownBy w4 pv.ownBlock)
    (A : pv.ownBlock = some g ∨ g = W.heap.size + 4) :
    ∃ L' : HL, Aside (L'.hb = hb ∧ L'.ka = ka ∧ L'.pa = pa ∧ L'.oa = oa) ∧
      Aside ((w4.setCell ⟨hb, 4, none⟩ (.slice (some ⟨g, 0, none⟩) (k + 1) cap)).cell? ⟨w.heap.size, 1, none⟩ = some (.slice pa np pc) ∧ (w4.setCell ⟨hb, 4, none⟩ (.slice (some ⟨g, 0, none⟩) (k + 1) cap)).cell? ⟨w.heap.size, 3, none⟩ = some (.slice oa no oc)) ∧
      Aside (Below w.heap.size w (w4.setCell ⟨hb, 4, none⟩ (.slice (some ⟨g, 0, none⟩) (k + 1) cap))) ∧ Aside (PartH (w4.setCell ⟨hb, 4, none⟩ (.slice (some ⟨g, 0, none⟩) (k + 1) cap)) (w.heap.size + 1) L' r (k + 1)) := by
  subst hno hpv
  obtain ⟨e1, e2, e3, e4⟩ := hL
  subst e1
  have hz4 := G.size
  rw [World.size_alloc, World.size_alloc] at hz4
  have hbw : Below W.heap.size W ((V.alloc (Obj.cells #[.int .i64 pk, .int .i64 phr, .int .i64 pcy, .bool pkn, .int .i64 (-1), .int .i64 (-1), .slice (some ⟨s0, 0, none⟩) r.orders.length r.orders.length, .slice (some ⟨c0, 0, none⟩) r.orders.length r.orders.length] 116)).alloc (Obj.cells #[.pointer (some ⟨W.heap.size + 2, 0, none⟩)] 112)) :=
    (bV.alloc (by omega) _).alloc (by rw [World.size_alloc]; omega) _
  have old : ∀ x, x < V.heap.size → ∀ a b : Obj, ((V.alloc a).alloc b).heap[x]? = V.heap[x]? := fun x hx a b => by
    rw [Below.heap_alloc _ _ _ (by rw [World.size_alloc]; omega), Below.heap_alloc _ _ _ hx]
  have hs3 := (Array.getElem?_eq_some_iff.1 hs).1
  have hc3 := (Array.getElem?_eq_some_iff.1 hc).1
  have hlb := hP.lt .h trivial
  have hBb := (hP.blocks .h trivial).2
  simp only [HL.blk] at hlb hBb
  have bWz := bW.size
  obtain ⟨L', q1, q2, q3, q4, _, _, _, q8⟩ := hP.next (w3 := (V.alloc (Obj.cells #[.int .i64 pk, .int .i64 phr, .int .i64 pcy, .bool pkn, .int .i64 (-1), .int .i64 (-1), .slice (some ⟨s0, 0, none⟩) r.orders.length r.orders.length, .slice (some ⟨c0, 0, none⟩) r.orders.length r.orders.length] 116)).alloc (Obj.cells #[.pointer (some ⟨W.heap.size + 2, 0, none⟩)] 112))
    (w4 := w4) s0 c0 (W.heap.size + 2) cap g hbw ls lc (by omega) n1 (by omega) (by omega) (by rw [old s0 hs3, hs, List.toArray_replicate]) (by rw [old c0 hc3, hc, List.toArray_replicate])
    (by rw [Below.heap_alloc _ _ _ (by rw [World.size_alloc]; omega), ← vz, heap_alloc_new, hp]) O G (A.imp id fun h => by rw [h, World.size_alloc, World.size_alloc]; omega)
  have hreg : ∀ j, (w4.setCell ⟨L.hb, 4, none⟩ (.slice (some ⟨g, 0, none⟩) (k + 1) cap)).cell? ⟨w.heap.size, j, none⟩ = wr.cell? ⟨w.heap.size, j, none⟩ := by
    intro j
    refine World.cell?_of_block ?_
    rw [Below.heap_setCell _ _ _ _ (by simp only; omega), G.block _ (by rw [World.size_alloc, World.size_alloc]; simp only; omega) ?_, old _ (by simp only; omega), bV.block _ (by simp only; omega), bW.block _ (by simp only; omega)]
    intro e
    obtain ⟨e5, e6⟩ := own_partsV e.symm
    have := (hP.blocks .pr e6).2
    simp only [HL.blk] at this e5
    omega
  have hBW : Below w.heap.size w (w4.setCell ⟨L.hb, 4, none⟩ (.slice (some ⟨g, 0, none⟩) (k + 1) cap)) := by
    refine Below.setCell (p := ⟨L.hb, 4, none⟩) ?_ (by simp only; omega) _
    refine ((hB.trans (bW.mono (by omega))).trans (hbw.mono (by omega))).grown G (by rw [World.size_alloc, World.size_alloc]; omega) fun b e => ?_
    obtain ⟨e5, e6⟩ := own_partsV e
    have := (hP.blocks .pr e6).2
    simp only [HL.blk] at this
    omega
  exact ⟨L', ⟨q1, q2.trans e2, q3.trans e3, q4.trans e4⟩, ⟨(hreg 1).trans hR.1, (hreg 3).trans hR.2⟩, hBW, q8⟩

set_option maxRecDepth 100000 in
set_option maxHeartbeats 2000000 in
theorem newHangar_any (r : RegR) (ka pa oa : Option Addr) (kc pc oc nm : Nat) (w : World) (hG : Glb w w.heap.size) (hR : RegRd w w.heap.size ka pa oa r.kinds.length r.parts.length r.orders.length r)
   (hnp : r.parts.length ≤ 24) (hno : r.orders.length ≤ 6) (hnm : nm ≤ 4) (hm : r.machines = nm) :
    Calls Tryd.prog 118 #[.agg #[.slice ka r.kinds.length kc, .slice pa r.parts.length pc, .int .i64 (nm : Int), .slice oa r.orders.length oc]] w fun e w' =>
      ∃ L, e = .returned (.pointer (some ⟨L.hb, 0, none⟩)) ∧ Below w.heap.size w w' ∧ IsH w' (w.heap.size + 1) L (newHS r) := by
  have HR := Lib.hid hR
  have HG := Lib.hid hG
  have HM := Lib.hid hm
  clear hR hm hG
  obtain ⟨np, hnpe⟩ : ∃ np, r.parts.length = np := ⟨_, rfl⟩
  obtain ⟨no, hnoe⟩ : ∃ no, r.orders.length = no := ⟨_, rfl⟩
  obtain ⟨nk, hnke⟩ : ∃ nk, r.kinds.length = nk := ⟨_, rfl⟩
  rw [hnpe] at hnp HR ⊢
  rw [hnoe] at hno HR ⊢
  rw [hnke] at HR ⊢
  have HNP := Lib.hid hnpe
  have HNO := Lib.hid hnoe
  have HNK := Lib.hid hnke
  clear hnpe hnoe hnke
  have m1 := fun w : World => mk_rep (P := Tryd.prog) 114 4 _ (.bool false) _ _ Tryd.underlying114 info_bool (one_cell rfl) no (by omega) (by omega) w
  have m2 := fun w : World => mk_rep (P := Tryd.prog) 130 113 _ (.int .i64 0) _ _ Tryd.underlying130 info_spot (two_cells) nm (by omega) (by omega) w
  have m3 := fun w : World => mk_rep (P := Tryd.prog) 67 57 _ (.slice none 0 0) _ _ Tryd.underlying67 info_stretches (one_cell rfl) np (by omega) (by omega) w
  simp only [Nat.mul_one] at m1 m3
  go_enter Tryd.func118, Tryd.ntmps118
  go_upto_region 1 with (fail)
  go_cut [3] (fun s3 wx => ∃ L : HL, s3 = .pointer (some ⟨L.hb, 0, none⟩) ∧ L.ka = ka ∧ L.pa = pa ∧ L.oa = oa ∧ wx.cell? ⟨w.heap.size, 1, none⟩ = some (.slice pa np pc) ∧ wx.cell? ⟨w.heap.size, 3, none⟩ = some (.slice oa no oc) ∧ Below w.heap.size w wx ∧ PartH wx (w.heap.size + 1) L r 0)
  case first =>
    go_region
    all_goals go_wp2
    all_goals go_meet
    all_goals (first
      | exact PartH.start HG.out HR.out HNK.out HNP.out HNO.out (below_alloc5 _ _ _ _ _) kc pc oc nm HM.out (w.heap.size + 1) (w.heap.size + 1 + 1) (w.heap.size + 1 + 1 + 1) (w.heap.size + 1 + 1 + 1 + 1) (by omega) (by omega) (by omega) (by omega) (by omega) (by omega) (by omega) (by omega) (by omega) (by omega) (by (simp only [World.alloc, World.drew, Array.getElem?_push, Array.size_push]; (repeat (first | rw [if_neg (by omega)] | rw [if_pos (by omega)] | rw [if_pos trivial])); first | done | fail)) (by (simp only [World.alloc, World.drew, Array.getElem?_push, Array.size_push]; (repeat (first | rw [if_neg (by omega)] | rw [if_pos (by omega)] | rw [if_pos trivial])); first | done | fail)) (by (simp only [World.alloc, World.drew, Array.getElem?_push, Array.size_push]; (repeat (first | rw [if_neg (by omega)] | rw [if_pos (by omega)] | rw [if_pos trivial])); first | done | fail)) (by (simp only [World.alloc, World.drew, Array.getElem?_push, Array.size_push]; (repeat (first | rw [if_neg (by omega)] | rw [if_pos (by omega)] | rw [if_pos trivial])); first | done | fail)) (by (simp only [World.alloc, World.drew, Array.getElem?_push, Array.size_push]; (repeat (first | rw [if_neg (by omega)] | rw [if_pos (by omega)] | rw [if_pos trivial])); first | done | fail))
      | exact PartH.start HG.out HR.out HNK.out HNP.out HNO.out (below_alloc5 _ _ _ _ _) kc pc oc nm HM.out (w.heap.size + 1) (w.heap.size + 1 + 1 + 1) (w.heap.size + 1 + 1) (w.heap.size + 1 + 1 + 1 + 1) (by omega) (by omega) (by omega) (by omega) (by omega) (by omega) (by omega) (by omega) (by omega) (by omega) (by (simp only [World.alloc, World.drew, Array.getElem?_push, Array.size_push]; (repeat (first | rw [if_neg (by omega)] | rw [if_pos (by omega)] | rw [if_pos trivial])); first | done | fail)) (by (simp only [World.alloc, World.drew, Array.getElem?_push, Array.size_push]; (repeat (first | rw [if_neg (by omega)] | rw [if_pos (by omega)] | rw [if_pos trivial])); first | done | fail)) (by (simp only [World.alloc, World.drew, Array.getElem?_push, Array.size_push]; (repeat (first | rw [if_neg (by omega)] | rw [if_pos (by omega)] | rw [if_pos trivial])); first | done | fail)) (by (simp only [World.alloc, World.drew, Array.getElem?_push, Array.size_push]; (repeat (first | rw [if_neg (by omega)] | rw [if_pos (by omega)] | rw [if_pos trivial])); first | done | fail)) (by (simp only [World.alloc, World.drew, Array.getElem?_push, Array.size_push]; (repeat (first | rw [if_neg (by omega)] | rw [if_pos (by omega)] | rw [if_pos trivial])); first | done | fail))
      | exact PartH.start HG.out HR.out HNK.out HNP.out HNO.out (below_alloc5 _ _ _ _ _) kc pc oc nm HM.out (w.heap.size + 1 + 1) (w.heap.size + 1) (w.heap.size + 1 + 1 + 1) (w.heap.size + 1 + 1 + 1 + 1) (by omega) (by omega) (by omega) (by omega) (by omega) (by omega) (by omega) (by omega) (by omega) (by omega) (by (simp only [World.alloc, World.drew, Array.getElem?_push, Array.size_push]; (repeat (first | rw [if_neg (by omega)] | rw [if_pos (by omega)] | rw [if_pos trivial])); first | done | fail)) (by (simp only [World.alloc, World.drew, Array.getElem?_push, Array.size_push]; (repeat (first | rw [if_neg (by omega)] | rw [if_pos (by omega)] | rw [if_pos trivial])); first | done | fail)) (by (simp only [World.alloc, World.drew, Array.getElem?_push, Array.size_push]; (repeat (first | rw [if_neg (by omega)] | rw [if_pos (by omega)] | rw [if_pos trivial])); first | done | fail)) (by (simp only [World.alloc, World.drew, Array.getElem?_push, Array.size_push]; (repeat (first | rw [if_neg (by omega)] | rw [if_pos (by omega)] | rw [if_pos trivial])); first | done | fail)) (by (simp only [World.alloc, World.drew, Array.getElem?_push, Array.size_push]; (repeat (first | rw [if_neg (by omega)] | rw [if_pos (by omega)] | rw [if_pos trivial])); first | done | fail))
      | exact PartH.start HG.out HR.out HNK.out HNP.out HNO.out (below_alloc5 _ _ _ _ _) kc pc oc nm HM.out (w.heap.size + 1 + 1) (w.heap.size + 1 + 1 + 1) (w.heap.size + 1) (w.heap.size + 1 + 1 + 1 + 1) (by omega) (by omega) (by omega) (by omega) (by omega) (by omega) (by omega) (by omega) (by omega) (by omega) (by (simp only [World.alloc, World.drew, Array.getElem?_push, Array.size_push]; (repeat (first | rw [if_neg (by omega)] | rw [if_pos (by omega)] | rw [if_pos trivial])); first | done | fail)) (by (simp only [World.alloc, World.drew, Array.getElem?_push, Array.size_push]; (repeat (first | rw [if_neg (by omega)] | rw [if_pos (by omega)] | rw [if_pos trivial])); first | done | fail)) (by (simp only [World.alloc, World.drew, Array.getElem?_push, Array.size_push]; (repeat (first | rw [if_neg (by omega)] | rw [if_pos (by omega)] | rw [if_pos trivial])); first | done | fail)) (by (simp only [World.alloc, World.drew, Array.getElem?_push, Array.size_push]; (repeat (first | rw [if_neg (by omega)] | rw [if_pos (by omega)] | rw [if_pos trivial])); first | done | fail)) (by (simp only [World.alloc, World.drew, Array.getElem?_push, Array.size_push]; (repeat (first | rw [if_neg (by omega)] | rw [if_pos (by omega)] | rw [if_pos trivial])); first | done | fail))
      | exact PartH.start HG.out HR.out HNK.out HNP.out HNO.out (below_alloc5 _ _ _ _ _) kc pc oc nm HM.out (w.heap.size + 1 + 1 + 1) (w.heap.size + 1) (w.heap.size + 1 + 1) (w.heap.size + 1 + 1 + 1 + 1) (by omega) (by omega) (by omega) (by omega) (by omega) (by omega) (by omega) (by omega) (by omega) (by omega) (by (simp only [World.alloc, World.drew, Array.getElem?_push, Array.size_push]; (repeat (first | rw [if_neg (by omega)] | rw [if_pos (by omega)] | rw [if_pos trivial])); first | done | fail)) (by (simp only [World.alloc, World.drew, Array.getElem?_push, Array.size_push]; (repeat (first | rw [if_neg (by omega)] | rw [if_pos (by omega)] | rw [if_pos trivial])); first | done | fail)) (by (simp only [World.alloc, World.drew, Array.getElem?_push, Array.size_push]; (repeat (first | rw [if_neg (by omega)] | rw [if_pos (by omega)] | rw [if_pos trivial])); first | done | fail)) (by (simp only [World.alloc, World.drew, Array.getElem?_push, Array.size_push]; (repeat (first | rw [if_neg (by omega)] | rw [if_pos (by omega)] | rw [if_pos trivial])); first | done | fail)) (by (simp only [World.alloc, World.drew, Array.getElem?_push, Array.size_push]; (repeat (first | rw [if_neg (by omega)] | rw [if_pos (by omega)] | rw [if_pos trivial])); first | done | fail))
      | exact PartH.start HG.out HR.out HNK.out HNP.out HNO.out (below_alloc5 _ _ _ _ _) kc pc oc nm HM.out (w.heap.size + 1 + 1 + 1) (w.heap.size + 1 + 1) (w.heap.size + 1) (w.heap.size + 1 + 1 + 1 + 1) (by omega) (by omega) (by omega) (by omega) (by omega) (by omega) (by omega) (by omega) (by omega) (by omega) (by (simp only [World.alloc, World.drew, Array.getElem?_push, Array.size_push]; (repeat (first | rw [if_neg (by omega)] | rw [if_pos (by omega)] | rw [if_pos trivial])); first | done | fail)) (by (simp only [World.alloc, World.drew, Array.getElem?_push, Array.size_push]; (repeat (first | rw [if_neg (by omega)] | rw [if_pos (by omega)] | rw [if_pos trivial])); first | done | fail)) (by (simp only [World.alloc, World.drew, Array.getElem?_push, Array.size_push]; (repeat (first | rw [if_neg (by omega)] | rw [if_pos (by omega)] | rw [if_pos trivial])); first | done | fail)) (by (simp only [World.alloc, World.drew, Array.getElem?_push, Array.size_push]; (repeat (first | rw [if_neg (by omega)] | rw [if_pos (by omega)] | rw [if_pos trivial])); first | done | fail)) (by (simp only [World.alloc, World.drew, Array.getElem?_push, Array.size_push]; (repeat (first | rw [if_neg (by omega)] | rw [if_pos (by omega)] | rw [if_pos trivial])); first | done | fail)))
  case rest =>
    obtain ⟨L0, rfl, ek, ep, eo, r1, r3, b0, p0⟩ := hcut
    obtain ⟨hb, hhb⟩ : ∃ hb, L0.hb = hb := ⟨_, rfl⟩
    have P0 := Lib.hid (And.intro hhb (And.intro ek (And.intro ep (And.intro eo p0))))
    have B0 := Lib.hid b0
    rw [hhb]
    clear hhb ek ep eo p0 b0 m2 m3
    have m4 := fun w : World => mk_rep (P := Tryd.prog) 22 3 _ (.int .i64 0) _ _ Tryd.underlying22 info_int (one_cell rfl) no (by omega) (by omega) w
    simp only [Nat.mul_one] at m4
    go_wp2
    go_loopg [23] np (fun gg s23 wr => ∃ (k : Nat) (L : HL), k ≤ np ∧ np - k ≤ gg ∧ s23 = .int .i64 k ∧ Aside (L.hb = hb ∧ L.ka = ka ∧ L.pa = pa ∧ L.oa = oa) ∧ Aside (wr.cell? ⟨w.heap.size, 1, none⟩ = some (.slice pa np pc) ∧ wr.cell? ⟨w.heap.size, 3, none⟩ = some (.slice oa no oc)) ∧ Aside (Below w.heap.size w wr) ∧ Aside (PartH wr (w.heap.size + 1) L r k))
    case atStart => exact ⟨0, L0, Nat.zero_le _, by omega, rfl, ⟨P0.out.1, P0.out.2.1, P0.out.2.2.1, P0.out.2.2.2.1⟩, ⟨r1, r3⟩, B0.out, P0.out.2.2.2.2⟩
    case round =>
      obtain ⟨k, L, hk, hg, rfl, EL, ER, EB, EP⟩ := hrel
      by_cases hlt : k < np
      · obtain ⟨pb, poff, hpa, hpc⟩ := HR.out.parts.ex
        obtain ⟨rfl, hpb⟩ := hpa (by omega)
        have q0 := (EB.out.cell (p := ⟨pb, poff + k * 4, none⟩) hpb).trans (hpc k hlt 0 _ rfl)
        have q1 := (EB.out.cell (p := ⟨pb, poff + k * 4 + 1, none⟩) hpb).trans (hpc k hlt 1 _ rfl)
        have q2 := (EB.out.cell (p := ⟨pb, poff + k * 4 + 2, none⟩) hpb).trans (hpc k hlt 2 _ rfl)
        have q3 := (EB.out.cell (p := ⟨pb, poff + k * 4 + 3, none⟩) hpb).trans (hpc k hlt 3 _ rfl)
        have hltz : (k : Int) < (np : Int) := by omega
        have hk0 : (0 : Int) ≤ (k : Int) := by omega
        have hpw : pb < wr.heap.size := Nat.lt_of_lt_of_le hpb EB.out.size
        clear hpa hpc
        obtain ⟨p, hp⟩ : ∃ p, r.parts[k]! = p := ⟨_, rfl⟩
        rw [hp] at q0 q1 q2 q3
        obtain ⟨pk, phr, pcy, pkn⟩ := p
        simp only at q0 q1 q2 q3
        have HP := Lib.hid hp
        clear hp
        go_upto_region 5 with (fail)
        refine code_named fun W hW => ?_
        have bW : Below wr.heap.size wr W := by rw [hW]; exact (Below.refl _ _).alloc (Nat.le_refl _) _
        have PW := EP.out.below bW
        have hsz : W.heap.size = wr.heap.size + 1 := by rw [hW, World.size_alloc]
        have hlw : w.heap.size < wr.heap.size := by have h1 := (EP.out.blocks .h trivial).2; have h2 := EP.out.lt .h trivial; omega
        have c4 : W.cell? ⟨hb, 4, none⟩ = some (partsV L k) := by rw [← EL.out.1]; exact (PW.cell .h trivial 4).trans rfl
        have f4 : W.frozen? ⟨hb, 4, none⟩ = false := by rw [← EL.out.1]; exact PW.frozen .h trivial 4
        have c3 : W.cell? ⟨w.heap.size, 3, none⟩ = some (.slice oa no oc) := (bW.cell (p := ⟨w.heap.size, 3, none⟩) hlw).trans ER.out.2
        have s0 := PW.glb.s0
        have s1 := PW.glb.s1
        have d0 : W.cell? ⟨wr.heap.size, 0, none⟩ = some (.int .i64 pk) := by rw [hW]; simp
        have d1 : W.cell? ⟨wr.heap.size, 1, none⟩ = some (.int .i64 phr) := by rw [hW]; simp
        have d2 : W.cell? ⟨wr.heap.size, 2, none⟩ = some (.int .i64 pcy) := by rw [hW]; simp
        have d3 : W.cell? ⟨wr.heap.size, 3, none⟩ = some (.bool pkn) := by rw [hW]; simp
        have PW' := Lib.hid PW
        have BW' := Lib.hid bW
        have HSZ := Lib.hid hsz
        have HLW := Lib.hid hlw
        obtain ⟨pv, hpv⟩ : ∃ pv, partsV L k = pv := ⟨_, rfl⟩
        rw [hpv] at c4
        have HPV := Lib.hid hpv
        clear hW PW bW hsz hpv q0 q1 q2 q3
        obtain ⟨l, hl⟩ : ∃ l : List Addr, l = [⟨hb, 4, none⟩, ⟨w.heap.size, 3, none⟩, ⟨1, 0, none⟩, ⟨1, 1, none⟩, ⟨wr.heap.size, 0, none⟩, ⟨wr.heap.size, 1, none⟩, ⟨wr.heap.size, 2, none⟩, ⟨wr.heap.size, 3, none⟩] := ⟨_, rfl⟩
        have y0 : ∀ x : Kept W l, x.1.cell? ⟨hb, 4, none⟩ = some pv := fun x => x.cell (by rw [hl]; simp) c4
        have y1 : ∀ x : Kept W l, x.1.cell? ⟨w.heap.size, 3, none⟩ = some (.slice oa no oc) := fun x => x.cell (by rw [hl]; simp) c3
        have y2 : ∀ x : Kept W l, x.1.cell? ⟨1, 0, none⟩ = some (.int .i64 (-1)) := fun x => x.cell (by rw [hl]; simp) s0
        have y3 : ∀ x : Kept W l, x.1.cell? ⟨1, 1, none⟩ = some (.int .i64 (-1)) := fun x => x.cell (by rw [hl]; simp) s1
        have y4 : ∀ x : Kept W l, x.1.cell? ⟨wr.heap.size, 0, none⟩ = some (.int .i64 pk) := fun x => x.cell (by rw [hl]; simp) d0
        have y5 : ∀ x : Kept W l, x.1.cell? ⟨wr.heap.size, 1, none⟩ = some (.int .i64 phr) := fun x => x.cell (by rw [hl]; simp) d1
        have y6 : ∀ x : Kept W l, x.1.cell? ⟨wr.heap.size, 2, none⟩ = some (.int .i64 pcy) := fun x => x.cell (by rw [hl]; simp) d2
        have y7 : ∀ x : Kept W l, x.1.cell? ⟨wr.heap.size, 3, none⟩ = some (.bool pkn) := fun x => x.cell (by rw [hl]; simp) d3
        have HLL := Lib.hid hl
        clear hl
        refine wp_region_last_lit 21 10 12 (fun V => ∃ x : Kept W l, V = x.1) (by kernel_rfl) (by rfl) (by rfl) rfl rfl (by kernel_rfl) rfl (by decide) (by kernel_rfl) (by kernel_rfl) (by kernel_rfl) (by intro c a d v w h; cases d <;> exact h) (KeptAt.refl _ _).drew ?_
        simp only [List.take_succ_cons, List.take_zero, List.cons_append, List.nil_append, nopOf]
        repeat (any_goals (first | go_big_quiet_step (fail) | quiet_step (fail)))
        refine wpQuiet_nil ?_
        refine wpAnyH_seg_at (by kernel_rfl) (by intro c a d v w h; cases d <;> exact h) (KeptAt.refl _ _).drew 9 11 3 _ _ (by decide) (by kernel_rfl) (by kernel_rfl) ?_
        simp only [List.take_succ_cons, List.take_zero, List.drop_succ_cons, List.drop_zero]
        repeat (any_goals (first | go_big_quiet_step (fail) | quiet_step (fail)))
        refine wpQuiet_nil ?_
        have lkW : ∀ p ∈ l, p.block < W.heap.size := by
          rw [HLL.out]
          intro p hp
          have h1 := PW'.out.lt .h trivial
          have h2 : L.hb = hb := EL.out.1
          have h3 := HSZ.out
          have h4 := PW'.out.glb.lt
          simp only [HL.blk] at h1
          simp only [List.mem_cons, List.not_mem_nil, or_false] at hp
          rcases hp with rfl | rfl | rfl | rfl | rfl | rfl | rfl | rfl <;> simp only <;> omega
        have own : ∀ p ∈ l, some p.block ≠ pv.ownBlock := by
          rw [HLL.out, ← HPV.out]
          intro p hp e
          obtain ⟨e1, e2⟩ := own_partsV e.symm
          have h1 := (PW'.out.blocks .pr e2).2
          have h2 : L.hb = hb := EL.out.1
          have h3 := PW'.out.glb.lt
          have h4 := EP.out.lt .pr e2
          have h5 : L.blk .h ≠ L.blk .pr := fun e => by cases PW'.out.inj .h .pr trivial e2 e
          simp only [HL.blk] at h1 h4 h5
          have h6 := HLW.out
          simp only [List.mem_cons, List.not_mem_nil, or_false] at hp
          rcases hp with rfl | rfl | rfl | rfl | rfl | rfl | rfl | rfl <;> simp only at e1 <;> omega
        have OWN := Lib.hid own
        clear own
        have KA : Aside (KeptAt W l (W.alloc (Obj.cells (Array.replicate no (Value.int IntKind.i64 0)) 3)).drew ∧ KeptAt W l ((W.alloc (Obj.cells (Array.replicate no (Value.int IntKind.i64 0)) 3)).alloc (Obj.cells (Array.replicate no (Value.bool false)) 4)).drew ∧
            KeptAt W l ((W.alloc (Obj.cells (Array.replicate no (Value.bool false)) 4)).alloc (Obj.cells (Array.replicate no (Value.int IntKind.i64 0)) 3)).drew ∧ KeptAt W l (W.alloc (Obj.cells (Array.replicate no (Value.bool false)) 4)).drew) :=
          ⟨((KeptAt.refl W l).below lkW ((Below.refl _ _).alloc (Nat.le_refl _) _)).drew, (KeptAt.refl W l).below lkW (below_alloc2 _ _), (KeptAt.refl W l).below lkW (below_alloc2 _ _), ((KeptAt.refl W l).below lkW ((Below.refl _ _).alloc (Nat.le_refl _) _)).drew⟩
        refine wpAnyH_two (e1 := 10) (e2 := 14) (by kernel_rfl) rfl rfl rfl rfl (fun K hK => ?_) (fun K hK => ?_)
        · go_simp
          refine hK _ _ KA.out.1 ?_
          clear hK K
          refine wpAnyH_one (e := 14) (by kernel_rfl) rfl rfl (fun K hK => ?_)
          go_simp
          refine hK _ _ KA.out.2.1 ?_
          clear hK K
          refine anyH_named fun V hV => ?_
          have kv : KeptAt W l V := by rw [hV]; exact KA.out.2.1
          have bv : Below W.heap.size W V := by rw [hV]; exact below_alloc2 _ _
          have hs0 : V.heap[W.heap.size]? = some (.cells (Array.replicate no (.int .i64 0)) 3 (0, 0)) := by rw [hV]; (simp only [World.alloc, World.drew, Array.getElem?_push, Array.size_push]; (repeat (first | rw [if_neg (by omega)] | rw [if_pos (by omega)] | rw [if_pos trivial])); first | done | fail)
          have hc0 : V.heap[W.heap.size + 1]? = some (.cells (Array.replicate no (.bool false)) 4 (0, 0)) := by rw [hV]; (simp only [World.alloc, World.drew, Array.getElem?_push, Array.size_push]; (repeat (first | rw [if_neg (by omega)] | rw [if_pos (by omega)] | rw [if_pos trivial])); first | done | fail)
          have vz : V.heap.size = W.heap.size + 2 := by rw [hV]; show ((W.alloc _).alloc _).heap.size = _; rw [World.size_alloc, World.size_alloc]
          have KV := Lib.hid kv
          have BV := Lib.hid bv
          have HS0 := Lib.hid hs0
          have HC0 := Lib.hid hc0
          clear hV kv bv hs0 hc0
          refine wpAnyH_one (e := 15) (by kernel_rfl) rfl rfl (fun K hK => ?_)
          go_simp
          refine hK _ _ KV.out ?_
          clear hK K
          refine wpAnyH_one (e := 16) (by kernel_rfl) rfl rfl (fun K hK => ?_)
          go_simp
          have lkV : ∀ p ∈ l, p.block < V.heap.size := fun p hp => by have := lkW p hp; omega
          refine hK _ _ (KV.out.below lkV ((Below.refl _ _).alloc (Nat.le_refl _) _)) ?_
          clear hK K
          refine wpAnyH_one (e := 17) (by kernel_rfl) rfl rfl (fun K hK => ?_)
          go_simp
          refine hK _ _ (KV.out.below lkV ((Below.refl _ _).alloc (Nat.le_refl _) _ |>.alloc (by rw [World.size_alloc]; omega) _)) ?_
          clear hK K
          refine wpAnyH_one (e := 18) (by kernel_rfl) rfl rfl (fun K hK => ?_)
          have O1 := (PW'.out.below BV.out).ownsParts
          rw [HPV.out] at O1
          have O2 := (O1.alloc (Obj.cells #[.int .i64 pk, .int .i64 phr, .int .i64 pcy, .bool pkn, .int .i64 (-1), .int .i64 (-1), .slice (some ⟨W.heap.size, 0, none⟩) no no, .slice (some ⟨W.heap.size + 1, 0, none⟩) no no] 116)).alloc (Obj.cells #[.pointer (some ⟨W.heap.size + 2, 0, none⟩)] 112)
          have hv2 : ((V.alloc (Obj.cells #[.int .i64 pk, .int .i64 phr, .int .i64 pcy, .bool pkn, .int .i64 (-1), .int .i64 (-1), .slice (some ⟨W.heap.size, 0, none⟩) no no, .slice (some ⟨W.heap.size + 1, 0, none⟩) no no] 116)).alloc (Obj.cells #[.pointer (some ⟨W.heap.size + 2, 0, none⟩)] 112)).heap.size = W.heap.size + 4 := by rw [World.size_alloc, World.size_alloc]; omega
          have hnw : ((V.alloc (Obj.cells #[.int .i64 pk, .int .i64 phr, .int .i64 pcy, .bool pkn, .int .i64 (-1), .int .i64 (-1), .slice (some ⟨W.heap.size, 0, none⟩) no no, .slice (some ⟨W.heap.size + 1, 0, none⟩) no no] 116)).alloc (Obj.cells #[.pointer (some ⟨W.heap.size + 2, 0, none⟩)] 112)).heap[W.heap.size + 2 + 1]? = some (Obj.cells #[.pointer (some ⟨W.heap.size + 2, 0, none⟩)] 112) := by
            have h1 : (V.alloc (Obj.cells #[.int .i64 pk, .int .i64 phr, .int .i64 pcy, .bool pkn, .int .i64 (-1), .int .i64 (-1), .slice (some ⟨W.heap.size, 0, none⟩) no no, .slice (some ⟨W.heap.size + 1, 0, none⟩) no no] 116)).heap.size = W.heap.size + 2 + 1 := by rw [World.size_alloc]; omega
            rw [← h1]; exact heap_alloc_new _ _
          have hB1 : w.heap.size + 1 ≤ ((V.alloc (Obj.cells #[.int .i64 pk, .int .i64 phr, .int .i64 pcy, .bool pkn, .int .i64 (-1), .int .i64 (-1), .slice (some ⟨W.heap.size, 0, none⟩) no no, .slice (some ⟨W.heap.size + 1, 0, none⟩) no no] 116)).alloc (Obj.cells #[.pointer (some ⟨W.heap.size + 2, 0, none⟩)] 112)).heap.size := by have := PW'.out.base; omega
          have hk63 : k + 1 ≤ maxLen := by simp only [maxLen]; omega
          have hk16 : (k + 1) * 8 ≤ 140737488355328 := by omega
          obtain ⟨ip, hip, hz0, hz1, hz2⟩ := info_parts info_pp
          refine wp_append_lies _ _ _ _ (by rfl) (w.heap.size + 1) 112 ip _ 1 8 Tryd.underlying129 hip hz0 hz1 hz2 rfl (by decide) pv k ((List.range k).map (fun i => Value.pointer (some ⟨L.pb i, 0, none⟩))) (by rfl) O2 ⟨W.heap.size + 2 + 1, 0, none⟩ 1 1 [.pointer (some ⟨W.heap.size + 2, 0, none⟩)] (by rfl) (by rfl) (World.news_of_block (cs := #[.pointer (some ⟨W.heap.size + 2, 0, none⟩)]) (t := 112) (fr := (0, 0)) hnw) (by simp [Value.oneCell']) (by decide) hk63 hk16 hB1 (W.heap.size + 4) hv2 ?_
          intro g cap w4 O4 G4 A4 g4
          have lkG : ∀ p ∈ l, p.block < ((V.alloc (Obj.cells #[.int .i64 pk, .int .i64 phr, .int .i64 pcy, .bool pkn, .int .i64 (-1), .int .i64 (-1), .slice (some ⟨W.heap.size, 0, none⟩) no no, .slice (some ⟨W.heap.size + 1, 0, none⟩) no no] 116)).alloc (Obj.cells #[.pointer (some ⟨W.heap.size + 2, 0, none⟩)] 112)).heap.size ∧ some p.block ≠ pv.ownBlock := fun p hp => ⟨by rw [hv2]; have := lkW p hp; omega, OWN.out p hp⟩
          have K3 := (KV.out.below lkV ((Below.refl _ _).alloc (Nat.le_refl _) _ |>.alloc (by rw [World.size_alloc]; omega) _)).grown lkG G4
          refine hK _ _ K3 ?_
          clear hK K
          have z4 : w4.cell? ⟨hb, 4, none⟩ = some pv := by obtain ⟨x3, hx3⟩ := K3; rw [hx3]; exact x3.cell (by rw [HLL.out]; simp) c4
          have zf : w4.frozen? ⟨hb, 4, none⟩ = false := by obtain ⟨x3, hx3⟩ := K3; rw [hx3]; exact x3.frozen (by rw [HLL.out]; simp) f4
          have NX := Lib.hid (next_round (s0 := W.heap.size) (c0 := W.heap.size + 1) PW'.out EL.out ER.out EB.out BW'.out HLW.out BV.out vz HNO.out HS0.out HC0.out (by omega) (by omega) (by omega) HP.out HPV.out O4 G4 A4)
          clear O4 G4 A4 lkG O1 O2 hv2 hnw hB1 hk63 hk16 hip hz0 hz1 hz2 y0 y1 y2 y3 y4 y5 y6 y7 d0 d1 d2 d3 s0 s1 c3
          refine wpAnyH_one (e := 19) (by kernel_rfl) rfl rfl (fun K hK => ?_)
          go_simp
          refine hK _ _ K3 ?_
          clear hK K
          refine wpAnyH_one (e := 20) (by kernel_rfl) rfl rfl (fun K hK => ?_)
          go_simp
          refine hK _ _ K3 ?_
          clear hK K
          refine wpAnyH_fin_lit rfl rfl rfl rfl (by kernel_rfl) (by kernel_rfl) K3 ?_
          go_simp
          rename_i KK hKK
          refine hKK _ _ ?_
          clear hKK KK z4 zf K3
          obtain ⟨w5, hw5⟩ : ∃ w5, w4.setCell ⟨hb, 4, none⟩ (.slice (some ⟨g, 0, none⟩) (k + 1) cap) = w5 := ⟨_, rfl⟩
          rw [hw5] at NX ⊢
          clear hw5
          obtain ⟨L', n1, n2, n3, n4⟩ := NX.out
          clear NX
          go_wp2
          go_roundg (np - (k + 1))
          case rel => exact ⟨k + 1, L', by omega, by omega, by go_num, n1, n2, n3, n4⟩
          case measure => omega
        · go_simp
          refine hK _ _ KA.out.2.2.2 ?_
          clear hK K
          refine wpAnyH_one (e := 10) (by kernel_rfl) rfl rfl (fun K hK => ?_)
          go_simp
          refine hK _ _ KA.out.2.2.1 ?_
          clear hK K
          refine anyH_named fun V hV => ?_
          have kv : KeptAt W l V := by rw [hV]; exact KA.out.2.2.1
          have bv : Below W.heap.size W V := by rw [hV]; exact below_alloc2 _ _
          have hs0 : V.heap[W.heap.size + 1]? = some (.cells (Array.replicate no (.int .i64 0)) 3 (0, 0)) := by rw [hV]; (simp only [World.alloc, World.drew, Array.getElem?_push, Array.size_push]; (repeat (first | rw [if_neg (by omega)] | rw [if_pos (by omega)] | rw [if_pos trivial])); first | done | fail)
          have hc0 : V.heap[W.heap.size]? = some (.cells (Array.replicate no (.bool false)) 4 (0, 0)) := by rw [hV]; (simp only [World.alloc, World.drew, Array.getElem?_push, Array.size_push]; (repeat (first | rw [if_neg (by omega)] | rw [if_pos (by omega)] | rw [if_pos trivial])); first | done | fail)
          have vz : V.heap.size = W.heap.size + 2 := by rw [hV]; show ((W.alloc _).alloc _).heap.size = _; rw [World.size_alloc, World.size_alloc]
          have KV := Lib.hid kv
          have BV := Lib.hid bv
          have HS0 := Lib.hid hs0
          have HC0 := Lib.hid hc0
          clear hV kv bv hs0 hc0
          refine wpAnyH_one (e := 15) (by kernel_rfl) rfl rfl (fun K hK => ?_)
          go_simp
          refine hK _ _ KV.out ?_
          clear hK K
          refine wpAnyH_one (e := 16) (by kernel_rfl) rfl rfl (fun K hK => ?_)
          go_simp
          have lkV : ∀ p ∈ l, p.block < V.heap.size := fun p hp => by have := lkW p hp; omega
          refine hK _ _ (KV.out.below lkV ((Below.refl _ _).alloc (Nat.le_refl _) _)) ?_
          clear hK K
          refine wpAnyH_one (e := 17) (by kernel_rfl) rfl rfl (fun K hK => ?_)
          go_simp
          refine hK _ _ (KV.out.below lkV ((Below.refl _ _).alloc (Nat.le_refl _) _ |>.alloc (by rw [World.size_alloc]; omega) _)) ?_
          clear hK K
          refine wpAnyH_one (e := 18) (by kernel_rfl) rfl rfl (fun K hK => ?_)
          have O1 := (PW'.out.below BV.out).ownsParts
          rw [HPV.out] at O1
          have O2 := (O1.alloc (Obj.cells #[.int .i64 pk, .int .i64 phr, .int .i64 pcy, .bool pkn, .int .i64 (-1), .int .i64 (-1), .slice (some ⟨W.heap.size + 1, 0, none⟩) no no, .slice (some ⟨W.heap.size, 0, none⟩) no no] 116)).alloc (Obj.cells #[.pointer (some ⟨W.heap.size + 2, 0, none⟩)] 112)
          have hv2 : ((V.alloc (Obj.cells #[.int .i64 pk, .int .i64 phr, .int .i64 pcy, .bool pkn, .int .i64 (-1), .int .i64 (-1), .slice (some ⟨W.heap.size + 1, 0, none⟩) no no, .slice (some ⟨W.heap.size, 0, none⟩) no no] 116)).alloc (Obj.cells #[.pointer (some ⟨W.heap.size + 2, 0, none⟩)] 112)).heap.size = W.heap.size + 4 := by rw [World.size_alloc, World.size_alloc]; omega
          have hnw : ((V.alloc (Obj.cells #[.int .i64 pk, .int .i64 phr, .int .i64 pcy, .bool pkn, .int .i64 (-1), .int .i64 (-1), .slice (some ⟨W.heap.size + 1, 0, none⟩) no no, .slice (some ⟨W.heap.size, 0, none⟩) no no] 116)).alloc (Obj.cells #[.pointer (some ⟨W.heap.size + 2, 0, none⟩)] 112)).heap[W.heap.size + 2 + 1]? = some (Obj.cells #[.pointer (some ⟨W.heap.size + 2, 0, none⟩)] 112) := by
            have h1 : (V.alloc (Obj.cells #[.int .i64 pk, .int .i64 phr, .int .i64 pcy, .bool pkn, .int .i64 (-1), .int .i64 (-1), .slice (some ⟨W.heap.size + 1, 0, none⟩) no no, .slice (some ⟨W.heap.size, 0, none⟩) no no] 116)).heap.size = W.heap.size + 2 + 1 := by rw [World.size_alloc]; omega
            rw [← h1]; exact heap_alloc_new _ _
          have hB1 : w.heap.size + 1 ≤ ((V.alloc (Obj.cells #[.int .i64 pk, .int .i64 phr, .int .i64 pcy, .bool pkn, .int .i64 (-1), .int .i64 (-1), .slice (some ⟨W.heap.size + 1, 0, none⟩) no no, .slice (some ⟨W.heap.size, 0, none⟩) no no] 116)).alloc (Obj.cells #[.pointer (some ⟨W.heap.size + 2, 0, none⟩)] 112)).heap.size := by have := PW'.out.base; omega
          have hk63 : k + 1 ≤ maxLen := by simp only [maxLen]; omega
          have hk16 : (k + 1) * 8 ≤ 140737488355328 := by omega
          obtain ⟨ip, hip, hz0, hz1, hz2⟩ := info_parts info_pp
          refine wp_append_lies _ _ _ _ (by rfl) (w.heap.size + 1) 112 ip _ 1 8 Tryd.underlying129 hip hz0 hz1 hz2 rfl (by decide) pv k ((List.range k).map (fun i => Value.pointer (some ⟨L.pb i, 0, none⟩))) (by rfl) O2 ⟨W.heap.size + 2 + 1, 0, none⟩ 1 1 [.pointer (some ⟨W.heap.size + 2, 0, none⟩)] (by rfl) (by rfl) (World.news_of_block (cs := #[.pointer (some ⟨W.heap.size + 2, 0, none⟩)]) (t := 112) (fr := (0, 0)) hnw) (by simp [Value.oneCell']) (by decide) hk63 hk16 hB1 (W.heap.size + 4) hv2 ?_
          intro g cap w4 O4 G4 A4 g4
          have lkG : ∀ p ∈ l, p.block < ((V.alloc (Obj.cells #[.int .i64 pk, .int .i64 phr, .int .i64 pcy, .bool pkn, .int .i64 (-1), .int .i64 (-1), .slice (some ⟨W.heap.size + 1, 0, none⟩) no no, .slice (some ⟨W.heap.size, 0, none⟩) no no] 116)).alloc (Obj.cells #[.pointer (some ⟨W.heap.size + 2, 0, none⟩)] 112)).heap.size ∧ some p.block ≠ pv.ownBlock := fun p hp => ⟨by rw [hv2]; have := lkW p hp; omega, OWN.out p hp⟩
          have K3 := (KV.out.below lkV ((Below.refl _ _).alloc (Nat.le_refl _) _ |>.alloc (by rw [World.size_alloc]; omega) _)).grown lkG G4
          refine hK _ _ K3 ?_
          clear hK K
          have z4 : w4.cell? ⟨hb, 4, none⟩ = some pv := by obtain ⟨x3, hx3⟩ := K3; rw [hx3]; exact x3.cell (by rw [HLL.out]; simp) c4
          have zf : w4.frozen? ⟨hb, 4, none⟩ = false := by obtain ⟨x3, hx3⟩ := K3; rw [hx3]; exact x3.frozen (by rw [HLL.out]; simp) f4
          have NX := Lib.hid (next_round (s0 := W.heap.size + 1) (c0 := W.heap.size) PW'.out EL.out ER.out EB.out BW'.out HLW.out BV.out vz HNO.out HS0.out HC0.out (by omega) (by omega) (by omega) HP.out HPV.out O4 G4 A4)
          clear O4 G4 A4 lkG O1 O2 hv2 hnw hB1 hk63 hk16 hip hz0 hz1 hz2 y0 y1 y2 y3 y4 y5 y6 y7 d0 d1 d2 d3 s0 s1 c3
          refine wpAnyH_one (e := 19) (by kernel_rfl) rfl rfl (fun K hK => ?_)
          go_simp
          refine hK _ _ K3 ?_
          clear hK K
          refine wpAnyH_one (e := 20) (by kernel_rfl) rfl rfl (fun K hK => ?_)
          go_simp
          refine hK _ _ K3 ?_
          clear hK K
          refine wpAnyH_fin_lit rfl rfl rfl rfl (by kernel_rfl) (by kernel_rfl) K3 ?_
          go_simp
          rename_i KK hKK
          refine hKK _ _ ?_
          clear hKK KK z4 zf K3
          obtain ⟨w5, hw5⟩ : ∃ w5, w4.setCell ⟨hb, 4, none⟩ (.slice (some ⟨g, 0, none⟩) (k + 1) cap) = w5 := ⟨_, rfl⟩
          rw [hw5] at NX ⊢
          clear hw5
          obtain ⟨L', n1, n2, n3, n4⟩ := NX.out
          clear NX
          go_wp2
          go_roundg (np - (k + 1))
          case rel => exact ⟨k + 1, L', by omega, by omega, by go_num, n1, n2, n3, n4⟩
          case measure => omega
      · have hltz : ¬ (k : Int) < (np : Int) := by omega
        have : k = np := by omega
        subst this
        go_wp2
        go_ret
        refine ⟨L, by rw [EL.out.1]; rfl, EB.out, ?_⟩
        have hd := EP.out
        rw [← HNP.out] at hd
        exact hd.done
end Go.Proofs.YtchnhjffpldpiaaDoor

/- The bounds of a hangar hold behind each work. No walk. -/
namespace Go.Proofs.YtchnhjffpldpiaaDoor
open Go.RowKit

variable {H : HS}

/-- A part's place changed. -/
theorem HS.Fit.spotTo (hf : H.Fit) (k : Nat) (hk : k < H.parts.length) (m p : Int) (hm : -2 ≤ m ∧ m < H.reg.machines) (hp : -2 ≤ p ∧ p ≤ 4) (ho : 0 ≤ m → H.hist[k]! ≠ []) :
    HS.Fit { H with parts := H.parts.set k { H.parts[k]! with im := m, ip := p } } := by
  have G : ∀ i : Nat, (H.parts.set k { H.parts[k]! with im := m, ip := p })[i]! = if i = k then { H.parts[k]! with im := m, ip := p } else H.parts[i]! := fun i => set_get! _ _ _ _ hk
  have hl : (H.parts.set k { H.parts[k]! with im := m, ip := p }).length = H.parts.length := List.length_set
  constructor
  · exact hf.valid
  · exact hl.trans hf.parts
  · exact hf.issued
  · exact hf.flown
  · exact hf.hist.trans hl.symm
  · intro i hi; rw [show _ = _ from hl] at hi
    show ((H.parts.set k _)[i]!).since.length = _
    rw [G]; split
    · exact hf.since k hk
    · exact hf.since i hi
  · intro i hi; rw [show _ = _ from hl] at hi
    show ((H.parts.set k _)[i]!).chk.length = _
    rw [G]; split
    · exact hf.chk k hk
    · exact hf.chk i hi
  · exact hf.works0
  · exact hf.works1
  · intro i hi; rw [show _ = _ from hl] at hi
    show 0 ≤ ((H.parts.set k _)[i]!).kind ∧ ((H.parts.set k _)[i]!).kind < _
    rw [G]; split
    · exact hf.kind0 k hk
    · exact hf.kind0 i hi
  · intro i hi; rw [show _ = _ from hl] at hi
    show 0 ≤ ((H.parts.set k _)[i]!).hours ∧ ((H.parts.set k _)[i]!).hours ≤ _
    rw [G]; split
    · exact hf.hours k hk
    · exact hf.hours i hi
  · intro i hi; rw [show _ = _ from hl] at hi
    show 0 ≤ ((H.parts.set k _)[i]!).cycles ∧ ((H.parts.set k _)[i]!).cycles ≤ _
    rw [G]; split
    · exact hf.cycles k hk
    · exact hf.cycles i hi
  · intro i j hi hj; rw [show _ = _ from hl] at hi
    show 0 ≤ ((H.parts.set k _)[i]!).since[j]! ∧ ((H.parts.set k _)[i]!).since[j]! ≤ _
    rw [G]; split
    · exact hf.sinces k j hk hj
    · exact hf.sinces i j hi hj
  · exact hf.flowns
  · intro i hi; rw [show _ = _ from hl] at hi
    show -2 ≤ ((H.parts.set k _)[i]!).im ∧ ((H.parts.set k _)[i]!).im < _ ∧ -2 ≤ ((H.parts.set k _)[i]!).ip ∧ ((H.parts.set k _)[i]!).ip ≤ 4
    rw [G]; split
    · exact ⟨hm.1, hm.2, hp.1, hp.2⟩
    · exact hf.spot i hi
  · intro i hi; rw [show _ = _ from hl] at hi
    show 0 ≤ ((H.parts.set k _)[i]!).im → _
    rw [G]; split
    · rename_i e; subst e; exact ho
    · exact hf.open' i hi
  · intro i hi; rw [show _ = _ from hl] at hi
    exact hf.hlen i hi
  · intro i s hi; rw [show _ = _ from hl] at hi
    exact hf.hok i s hi
end Go.Proofs.YtchnhjffpldpiaaDoor

/- Behind each work a hangar's bounds hold. No walk. -/
namespace Go.Proofs.YtchnhjffpldpiaaDoor
open Go.RowKit

/-- What stands in a machine has an open stretch whose numbers are at most what its machine has flown. -/
def HS.Open (H : HS) : Prop := ∀ i, i < H.parts.length → 0 ≤ (H.parts[i]!).im →
  ((H.hist[i]!)[(H.hist[i]!).length - 1]!).hours ≤ (H.flown[((H.hist[i]!)[(H.hist[i]!).length - 1]!).machine.toNat]!).1 ∧
  ((H.hist[i]!)[(H.hist[i]!).length - 1]!).cycles ≤ (H.flown[((H.hist[i]!)[(H.hist[i]!).length - 1]!).machine.toNat]!).2

/-- A hangar with a work more. -/
def HS.bump (H : HS) : HS := { H with works := H.works + 1 }

structure PStp (H H' : HS) (i : Nat) : Prop where
  kind : (H'.parts[i]!).kind = (H.parts[i]!).kind
  sl : (H'.parts[i]!).since.length = (H.parts[i]!).since.length
  cl : (H'.parts[i]!).chk.length = (H.parts[i]!).chk.length
  hours : (H.parts[i]!).hours ≤ (H'.parts[i]!).hours ∧ (H'.parts[i]!).hours ≤ (H.parts[i]!).hours + 100
  cycles : (H.parts[i]!).cycles ≤ (H'.parts[i]!).cycles ∧ (H'.parts[i]!).cycles ≤ (H.parts[i]!).cycles + 100
  since : ∀ j, j < H.reg.orders.length → (H.parts[i]!).since[j]! ≤ (H'.parts[i]!).since[j]! ∧ (H'.parts[i]!).since[j]! ≤ (H.parts[i]!).since[j]! + 100
  spot : -2 ≤ (H'.parts[i]!).im ∧ (H'.parts[i]!).im < H.reg.machines ∧ -2 ≤ (H'.parts[i]!).ip ∧ (H'.parts[i]!).ip ≤ 4
  hist : (H'.hist[i]! = H.hist[i]! ∧ (0 ≤ (H'.parts[i]!).im → 0 ≤ (H.parts[i]!).im)) ∨
    (H'.flown = H.flown ∧ ∃ s : StretchR, H'.hist[i]! = H.hist[i]! ++ [s] ∧ 0 ≤ s.machine ∧ s.machine < H.reg.machines ∧ s.hours = (H.flown[s.machine.toNat]!).1 ∧ s.cycles = (H.flown[s.machine.toNat]!).2) ∨
    ((H'.parts[i]!).im < 0 ∧ 0 ≤ (H.parts[i]!).im ∧ H'.hist[i]! = endLast H.flown H.works H.hist[i]!)

structure Stp (H H' : HS) : Prop where
  reg : H'.reg = H.reg
  works : H'.works = H.works
  pl : H'.parts.length = H.parts.length
  il : H'.issued.length = H.issued.length
  fl : H'.flown.length = H.flown.length
  hl : H'.hist.length = H.hist.length
  part : ∀ i, i < H.parts.length → PStp H H' i
  flown : ∀ i, i < H.flown.length → (H.flown[i]!).1 ≤ (H'.flown[i]!).1 ∧ (H'.flown[i]!).1 ≤ (H.flown[i]!).1 + 100 ∧ (H.flown[i]!).2 ≤ (H'.flown[i]!).2 ∧ (H'.flown[i]!).2 ≤ (H.flown[i]!).2 + 100

variable {H H' : HS}

theorem last_mem (l : List StretchR) (h : l ≠ []) : l[l.length - 1]! ∈ l := by
  have : 0 < l.length := List.length_pos_iff.2 h
  rw [getElem!_pos l _ (by omega)]
  exact List.getElem_mem _

theorem Stp.keep (st : Stp H H') (hf : H.Fit) (ho : H.Open) (hw : H.works < 200) : H'.bump.Fit ∧ H'.bump.Open := by
  have hw0 := hf.works0
  have ok : ∀ i s, i < H.parts.length → s ∈ H'.hist[i]! → 0 ≤ s.machine ∧ s.machine < H.reg.machines ∧ 0 ≤ s.hours ∧ s.hours ≤ 20000 ∧ 0 ≤ s.cycles ∧ s.cycles ≤ 20000 := by
    intro i s hi hs
    have hk := hf.hok i
    rcases (st.part i hi).hist with ⟨e, _⟩ | ⟨_, s0, e, m0, m1, e1, e2⟩ | ⟨_, him, e⟩
    · rw [e] at hs; exact hk s hi hs
    · rw [e] at hs
      rcases List.mem_append.1 hs with h | h
      · exact hk s hi h
      · obtain rfl : s = s0 := by simpa using h
        have hl := hf.flown
        have := hf.flowns s.machine.toNat (by omega)
        exact ⟨m0, m1, by omega, by omega, by omega, by omega⟩
    · rw [e] at hs
      unfold endLast at hs
      rcases List.mem_or_eq_of_mem_set hs with h | h
      · exact hk s hi h
      · have hne := hf.open' i hi him
        have h1 := hk _ hi (last_mem _ hne)
        have h2 := ho i hi him
        have hl := hf.flown
        have h3 := hf.flowns ((H.hist[i]!)[(H.hist[i]!).length - 1]!).machine.toNat (by omega)
        subst h
        simp only
        exact ⟨h1.1, h1.2.1, by omega, by omega, by omega, by omega⟩
  have len : ∀ i, i < H.parts.length → ((H'.hist[i]!).length : Int) ≤ H.works + 1 := by
    intro i hi
    have := hf.hlen i hi
    rcases (st.part i hi).hist with ⟨e, _⟩ | ⟨_, s0, e, _⟩ | ⟨_, _, e⟩
    · rw [e]; omega
    · rw [e]; simp only [List.length_append, List.length_cons, List.length_nil]; omega
    · rw [e]; simp only [endLast, List.length_set]; omega
  constructor
  · constructor
    · show validReg H'.reg = true; rw [st.reg]; exact hf.valid
    · show H'.parts.length = H'.reg.parts.length; rw [st.pl, st.reg]; exact hf.parts
    · show H'.issued.length = H'.reg.orders.length; rw [st.il, st.reg]; exact hf.issued
    · show (H'.flown.length : Int) = H'.reg.machines; rw [st.fl, st.reg]; exact hf.flown
    · show H'.hist.length = H'.parts.length; rw [st.hl, st.pl]; exact hf.hist
    · intro i hi; show (H'.parts[i]!).since.length = H'.reg.orders.length
      have hi : i < H.parts.length := st.pl ▸ hi
      rw [(st.part i hi).sl, st.reg]; exact hf.since i hi
    · intro i hi; show (H'.parts[i]!).chk.length = H'.reg.orders.length
      have hi : i < H.parts.length := st.pl ▸ hi
      rw [(st.part i hi).cl, st.reg]; exact hf.chk i hi
    · show 0 ≤ H'.works + 1; rw [st.works]; omega
    · show H'.works + 1 ≤ 200; rw [st.works]; omega
    · intro i hi; show 0 ≤ (H'.parts[i]!).kind ∧ (H'.parts[i]!).kind < H'.reg.kinds.length
      have hi : i < H.parts.length := st.pl ▸ hi
      rw [(st.part i hi).kind, st.reg]; exact hf.kind0 i hi
    · intro i hi; show 0 ≤ (H'.parts[i]!).hours ∧ (H'.parts[i]!).hours ≤ 100000 + 100 * (H'.works + 1)
      have hi : i < H.parts.length := st.pl ▸ hi
      have := (st.part i hi).hours; have := hf.hours i hi; rw [st.works]; omega
    · intro i hi; show 0 ≤ (H'.parts[i]!).cycles ∧ (H'.parts[i]!).cycles ≤ 100000 + 100 * (H'.works + 1)
      have hi : i < H.parts.length := st.pl ▸ hi
      have := (st.part i hi).cycles; have := hf.cycles i hi; rw [st.works]; omega
    · intro i j hi hj; show 0 ≤ (H'.parts[i]!).since[j]! ∧ (H'.parts[i]!).since[j]! ≤ 100 * (H'.works + 1)
      have hi : i < H.parts.length := st.pl ▸ hi
      have hj : j < H.reg.orders.length := st.reg ▸ hj
      have := (st.part i hi).since j hj; have := hf.sinces i j hi hj; rw [st.works]; omega
    · intro i hi; show 0 ≤ (H'.flown[i]!).1 ∧ (H'.flown[i]!).1 ≤ 100 * (H'.works + 1) ∧ 0 ≤ (H'.flown[i]!).2 ∧ (H'.flown[i]!).2 ≤ 100 * (H'.works + 1)
      have hi : i < H.flown.length := st.fl ▸ hi
      have := st.flown i hi; have := hf.flowns i hi; rw [st.works]; omega
    · intro i hi; show -2 ≤ (H'.parts[i]!).im ∧ (H'.parts[i]!).im < H'.reg.machines ∧ -2 ≤ (H'.parts[i]!).ip ∧ (H'.parts[i]!).ip ≤ 4
      have hi : i < H.parts.length := st.pl ▸ hi
      rw [st.reg]; exact (st.part i hi).spot
    · intro i hi; show 0 ≤ (H'.parts[i]!).im → H'.hist[i]! ≠ []
      intro hm
      have hi : i < H.parts.length := st.pl ▸ hi
      rcases (st.part i hi).hist with ⟨e, h⟩ | ⟨_, s0, e, _⟩ | ⟨h, _⟩
      · rw [e]; exact hf.open' i hi (h hm)
      · rw [e]; simp
      · omega
    · intro i hi; show ((H'.hist[i]!).length : Int) ≤ H'.works + 1
      have hi : i < H.parts.length := st.pl ▸ hi
      rw [st.works]; exact len i hi
    · intro i s hi hs
      have hi : i < H.parts.length := st.pl ▸ hi
      show 0 ≤ s.machine ∧ s.machine < H'.reg.machines ∧ _
      rw [st.reg]
      exact ok i s hi hs
  · intro i hi hm
    have hi : i < H.parts.length := st.pl ▸ hi
    show ((H'.hist[i]!)[(H'.hist[i]!).length - 1]!).hours ≤ (H'.flown[((H'.hist[i]!)[(H'.hist[i]!).length - 1]!).machine.toNat]!).1 ∧ ((H'.hist[i]!)[(H'.hist[i]!).length - 1]!).cycles ≤ (H'.flown[((H'.hist[i]!)[(H'.hist[i]!).length - 1]!).machine.toNat]!).2
    rcases (st.part i hi).hist with ⟨e, h⟩ | ⟨ef, s0, e, m0, m1, e1, e2⟩ | ⟨h, _⟩
    · have h1 := ho i hi (h hm)
      have hk := hf.hok i _ hi (last_mem _ (hf.open' i hi (h hm)))
      have hl := hf.flown
      rw [e]
      have := st.flown ((H.hist[i]!)[(H.hist[i]!).length - 1]!).machine.toNat (by omega)
      omega
    · have el : (H.hist[i]! ++ [s0])[(H.hist[i]! ++ [s0]).length - 1]! = s0 := by simp
      rw [e, el, ef]
      omega
    · have : 0 ≤ (H'.parts[i]!).im := hm
      omega

theorem PStp.same (hf : H.Fit) {i : Nat} (hi : i < H.parts.length) (hp : H'.parts[i]! = H.parts[i]!) (hh : H'.hist[i]! = H.hist[i]!) : PStp H H' i := by
  have := hf.spot i hi
  exact ⟨by rw [hp], by rw [hp], by rw [hp], by rw [hp]; omega, by rw [hp]; omega, fun j _ => by rw [hp]; omega, by rw [hp]; exact this, .inl ⟨hh, by rw [hp]; exact id⟩⟩
theorem flown_same (H' : HS) (e : H'.flown = H.flown) : ∀ i, i < H.flown.length → (H.flown[i]!).1 ≤ (H'.flown[i]!).1 ∧ (H'.flown[i]!).1 ≤ (H.flown[i]!).1 + 100 ∧ (H.flown[i]!).2 ≤ (H'.flown[i]!).2 ∧ (H'.flown[i]!).2 ≤ (H.flown[i]!).2 + 100 := by
  intro i _; rw [e]; omega

theorem flySince_len (hours : Int) (bs : List Bool) (ss : List Int) (h : bs.length = ss.length) : (flySince hours bs ss).length = ss.length := by
  simp [flySince, h]
theorem flySince_get (hours : Int) (bs : List Bool) (ss : List Int) (j : Nat) (h : bs.length = ss.length) (hj : j < ss.length) : (flySince hours bs ss)[j]! = if bs[j]! then ss[j]! + hours else ss[j]! := by
  rw [getElem!_pos _ j (by rw [flySince_len hours bs ss h]; exact hj), getElem!_pos bs j (by omega), getElem!_pos ss j hj]
  simp [flySince]

theorem fly_stp (hf : H.Fit) {m hours cyc : Int} (h : H.fly m hours cyc = some H') : Stp H H' := by
  unfold HS.fly at h
  split at h
  · rename_i hg
    injection h with h
    obtain ⟨g1, g2, g3, g4⟩ := flyGuard_parts hg
    have b1 := inB_iff.1 g1
    have b2 := inB_iff.1 g2
    have b3 := inB_iff.1 g3
    have hl := hf.flown
    have hm : m.toNat < H.flown.length := by omega
    subst h
    refine ⟨rfl, rfl, by simp, rfl, by simp [addFlown], rfl, fun i hi => ?_, fun i hi => ?_⟩
    · have e : (H.parts.map (flyPart H m hours cyc))[i]! = flyPart H m hours cyc H.parts[i]! := map_get!' _ _ _ hi
      have hsp := hf.spot i hi
      have hil : H.issued.length = (H.parts[i]!).since.length := by rw [hf.issued, hf.since i hi]
      by_cases him : (H.parts[i]!).im = m
      · have e' : flyPart H m hours cyc H.parts[i]! = { H.parts[i]! with hours := (H.parts[i]!).hours + hours, cycles := (H.parts[i]!).cycles + cyc, since := flySince hours H.issued (H.parts[i]!).since } := by unfold flyPart; rw [if_pos him]
        rw [e'] at e
        refine ⟨by rw [e], by rw [e]; exact flySince_len _ _ _ hil, by rw [e], by rw [e]; simp only; omega, by rw [e]; simp only; omega, fun j hj => ?_, by rw [e]; exact hsp, .inl ⟨rfl, by rw [e]; exact id⟩⟩
        rw [e]
        simp only
        rw [flySince_get _ _ _ j hil (by rw [hf.since i hi]; exact hj)]
        split <;> omega
      · have e' : flyPart H m hours cyc H.parts[i]! = H.parts[i]! := by unfold flyPart; rw [if_neg him]
        rw [e'] at e
        exact PStp.same hf hi e rfl
    · show (H.flown[i]!).1 ≤ ((addFlown H.flown m.toNat hours cyc)[i]!).1 ∧ ((addFlown H.flown m.toNat hours cyc)[i]!).1 ≤ (H.flown[i]!).1 + 100 ∧ (H.flown[i]!).2 ≤ ((addFlown H.flown m.toNat hours cyc)[i]!).2 ∧ ((addFlown H.flown m.toNat hours cyc)[i]!).2 ≤ (H.flown[i]!).2 + 100
      unfold addFlown
      rw [set_get! _ _ _ _ hm]
      split
      · rename_i e; subst e; simp only; omega
      · omega
  · cases h

theorem part_lt {n : Int} (hp : H.part n = true) : 0 ≤ n ∧ n.toNat < H.parts.length := by
  have := inB_iff.1 hp; omega

theorem set_stp (hf : H.Fit) (k : Nat) (hk : k < H.parts.length) (p : PS) (hist : List (List StretchR)) (hl : hist.length = H.hist.length) (hh : ∀ i : Nat, i ≠ k → hist[i]! = H.hist[i]!)
    (hP : PStp H { H with parts := H.parts.set k p, hist := hist } k) : Stp H { H with parts := H.parts.set k p, hist := hist } := by
  refine ⟨rfl, rfl, by simp, rfl, rfl, hl, fun i hi => ?_, flown_same _ rfl⟩
  by_cases e : i = k
  · subst e; exact hP
  · refine PStp.same hf hi ?_ (hh i e)
    show (H.parts.set k p)[i]! = _
    rw [set_get! _ _ _ _ hk, if_neg e]

theorem fit_stp (hf : H.Fit) {n m pl : Int} (h : H.fit n m pl = some H') : Stp H H' := by
  unfold HS.fit at h
  split at h
  · rename_i hg
    injection h with h
    subst h
    simp only [fitGuard, Bool.and_eq_true, decide_eq_true_eq] at hg
    obtain ⟨g1, g2, _, _, g5, _⟩ := hg
    obtain ⟨n0, n1⟩ := part_lt g1
    have b2 := inB_iff.1 g2
    have b5 := inB_iff.1 g5
    have hs := small_of_valid hf.valid
    have hk := hf.kind0 n.toNat n1
    have hpl := hs.kinds (H.parts[n.toNat]!).kind.toNat (by omega)
    have hhl := hf.hist
    have e : (H.parts.set n.toNat { H.parts[n.toNat]! with im := m, ip := pl })[n.toNat]! = { H.parts[n.toNat]! with im := m, ip := pl } := by rw [set_get! _ _ _ _ n1, if_pos rfl]
    refine set_stp hf n.toNat n1 _ _ (by simp) (fun i hi => by rw [set_get! _ _ _ _ (by omega), if_neg hi]) ?_
    refine ⟨by simp only [e], by simp only [e], by simp only [e], by simp only [e]; omega, by simp only [e]; omega, fun j _ => by simp only [e]; omega, by simp only [e]; omega, .inr (.inl ⟨rfl, ⟨m, pl, H.works, -1, (H.flown[m.toNat]!).1, (H.flown[m.toNat]!).2⟩, ?_, by show 0 ≤ m; omega, by show m < H.reg.machines; omega, rfl, rfl⟩)⟩
    simp only
    rw [set_get! _ _ _ _ (by omega), if_pos rfl]
  · cases h

theorem check_stp (hf : H.Fit) {n o : Int} (h : H.check n o = some H') : Stp H H' := by
  unfold HS.check at h
  split at h
  · rename_i hg
    injection h with h
    subst h
    simp only [checkGuard, Bool.and_eq_true] at hg
    obtain ⟨n0, n1⟩ := part_lt hg.1
    have hsp := hf.spot n.toNat n1
    have e : ∀ p : PS, (H.parts.set n.toNat p)[n.toNat]! = p := fun p => by rw [set_get! _ _ _ _ n1, if_pos rfl]
    exact set_stp hf n.toNat n1 _ H.hist rfl (fun _ _ => rfl) ⟨by simp only [e], by simp only [e], by simp only [e, List.length_set], by simp only [e]; omega, by simp only [e]; omega, fun j _ => by simp only [e]; omega, by simp only [e]; omega, .inl ⟨rfl, by simp only [e]; exact id⟩⟩
  · cases h

theorem take_stp (hf : H.Fit) {n : Int} (h : H.take n = some H') : Stp H H' := by
  unfold HS.take at h
  split at h
  · rename_i hg
    injection h with h
    subst h
    simp only [Bool.and_eq_true, decide_eq_true_eq] at hg
    obtain ⟨n0, n1⟩ := part_lt hg.1
    have hsp := hf.spot n.toNat n1
    have hhl := hf.hist
    have e : ∀ p : PS, (H.parts.set n.toNat p)[n.toNat]! = p := fun p => by rw [set_get! _ _ _ _ n1, if_pos rfl]
    have hm0 : 0 ≤ H.reg.machines := by have := hf.flown; omega
    refine set_stp hf n.toNat n1 _ _ (by simp) (fun i hi => by rw [set_get! _ _ _ _ (by omega), if_neg hi]) ⟨by simp only [e], by simp only [e], by simp only [e], by simp only [e]; omega, by simp only [e]; omega, fun j _ => by simp only [e]; omega, by simp only [e]; omega, .inr (.inr ⟨by simp only [e]; omega, hg.2, ?_⟩)⟩
    simp only
    rw [set_get! _ _ _ _ (by omega), if_pos rfl]
  · cases h

theorem issue_stp (hf : H.Fit) {o : Int} (h : H.issue o = some H') : Stp H H' := by
  unfold HS.issue at h
  split at h
  · injection h with h
    subst h
    exact ⟨rfl, rfl, rfl, by simp, rfl, rfl, fun i hi => PStp.same hf hi rfl rfl, flown_same _ rfl⟩
  · cases h

theorem scrap_stp (hf : H.Fit) {n : Int} (h : H.scrap n = some H') : Stp H H' := by
  unfold HS.scrap at h
  split at h
  · rename_i hg
    injection h with h
    subst h
    simp only [Bool.and_eq_true] at hg
    obtain ⟨n0, n1⟩ := part_lt hg.1
    have hsp := hf.spot n.toNat n1
    have e : ∀ p : PS, (H.parts.set n.toNat p)[n.toNat]! = p := fun p => by rw [set_get! _ _ _ _ n1, if_pos rfl]
    have hm0 : 0 ≤ H.reg.machines := by have := hf.flown; omega
    exact set_stp hf n.toNat n1 _ H.hist rfl (fun _ _ => rfl) ⟨by simp only [e], by simp only [e], by simp only [e], by simp only [e]; omega, by simp only [e]; omega, fun j _ => by simp only [e]; omega, by simp only [e]; omega, .inl ⟨rfl, by simp only [e]; omega⟩⟩
  · cases h

theorem work_stp (hf : H.Fit) (x : WorkR) (h : H.doWork x = some H') : Stp H H' := by
  unfold HS.doWork at h
  repeat' split at h
  all_goals first
    | exact fly_stp hf h
    | exact fit_stp hf h
    | exact check_stp hf h
    | exact take_stp hf h
    | exact issue_stp hf h
    | exact scrap_stp hf h
    | cases h

theorem new_fit (r : RegR) (hv : validReg r = true) : (newHS r).Fit ∧ (newHS r).Open := by
  have hs := small_of_valid hv
  have hm := hs.m0
  have hp : ∀ i, i < r.parts.length → (newHS r).parts[i]! = PS.of r.orders.length r.parts[i]! := fun i hi => map_get!' _ _ _ hi
  have hpl : (newHS r).parts.length = r.parts.length := by simp [newHS]
  have hh : ∀ i : Nat, (newHS r).hist[i]! = [] := by
    intro i
    simp only [newHS]
    by_cases hi : i < r.parts.length
    · rw [getElem!_pos _ i (by simpa using hi)]; simp
    · rw [getElem!_neg _ i (by simpa using hi)]; rfl
  constructor
  · constructor
    · exact hv
    · exact hpl
    · simp [newHS]
    · simp [newHS]; omega
    · simp [newHS]
    · intro i hi; rw [hpl] at hi; rw [hp i hi]; simp [PS.of]; rfl
    · intro i hi; rw [hpl] at hi; rw [hp i hi]; simp [PS.of]; rfl
    · show (0 : Int) ≤ 0; omega
    · show (0 : Int) ≤ 200; omega
    · intro i hi; rw [hpl] at hi; rw [hp i hi]; exact ⟨(hs.parts i hi).1, (hs.parts i hi).2.1⟩
    · intro i hi; rw [hpl] at hi; rw [hp i hi]; have := hs.parts i hi; show 0 ≤ (r.parts[i]!).hours ∧ (r.parts[i]!).hours ≤ 100000 + 100 * 0; omega
    · intro i hi; rw [hpl] at hi; rw [hp i hi]; have := hs.parts i hi; show 0 ≤ (r.parts[i]!).cycles ∧ (r.parts[i]!).cycles ≤ 100000 + 100 * 0; omega
    · intro i j hi hj; rw [hpl] at hi; rw [hp i hi]; show 0 ≤ (List.replicate r.orders.length (0 : Int))[j]! ∧ (List.replicate r.orders.length (0 : Int))[j]! ≤ 100 * 0
      have hj : j < r.orders.length := hj
      rw [getElem!_pos _ j (by simpa using hj)]; simp
    · intro i hi
      have hi : i < r.machines.toNat := by simpa [newHS] using hi
      have e : (newHS r).flown[i]! = (0, 0) := by
        show (List.replicate r.machines.toNat ((0 : Int), (0 : Int)))[i]! = _
        rw [getElem!_pos _ i (by simpa using hi)]; simp
      rw [e]; show (0 : Int) ≤ 0 ∧ (0 : Int) ≤ 100 * 0 ∧ (0 : Int) ≤ 0 ∧ (0 : Int) ≤ 100 * 0; omega
    · intro i hi; rw [hpl] at hi; rw [hp i hi]; show -2 ≤ (-1 : Int) ∧ (-1 : Int) < r.machines ∧ -2 ≤ (-1 : Int) ∧ (-1 : Int) ≤ 4; omega
    · intro i hi h; rw [hpl] at hi; rw [hp i hi] at h; exact absurd h (by show ¬ (0 : Int) ≤ -1; omega)
    · intro i hi; rw [hh i]; show ((0 : Nat) : Int) ≤ 0; omega
    · intro i s hi hs; rw [hh i] at hs; cases hs
  · intro i hi h; rw [hpl] at hi; rw [hp i hi] at h; exact absurd h (by show ¬ (0 : Int) ≤ -1; omega)

end Go.Proofs.YtchnhjffpldpiaaDoor

/- hangar.end, walked. -/
namespace Go.Proofs.YtchnhjffpldpiaaDoor
open Go.RowKit
attribute [local go_sem] eqi_spot eqi_pair gd_spot gd_pair
attribute [local go_sem ↓] Go.wp_at_zero Go.wp_at_succ

variable {w : World} {B : Nat} {L : HL} {H : HS}

theorem IsH.histc (h : IsH w B L H) (k : Nat) (hk : k < H.parts.length) (j : Nat) (hj : j < (H.hist[k]!).length) (i : Nat) (u : Value) (hu : (encStretch (H.hist[k]!)[j]!)[i]? = some u) : w.cell? ⟨L.gb k, j * 6 + i, none⟩ = some u := by
  have hne : H.hist[k]! ≠ [] := by intro e; rw [e] at hj; simp at hj
  have h1 := flatMap_get? encStretch 6 (fun _ => rfl) (H.hist[k]!) j i u hj hu
  rw [show L.gb k = L.blk (.hist k) from rfl, h.cell (.hist k) ⟨hk, hne⟩]
  show (_ ++ _)[_]? = _
  rw [List.getElem?_append_left (List.getElem?_eq_some_iff.1 h1).1]
  exact h1

set_option maxRecDepth 100000 in
set_option maxHeartbeats 4000000 in
theorem end_any (h : IsH w B L H) (hf : H.Fit) (k : Nat) (hk : k < H.parts.length) (n : Nat) (hn : (H.hist[k]!).length = n + 1) (tt : Int) :
    Calls Tryd.prog 79 #[.pointer (some ⟨L.hb, 0, none⟩), .slice (some ⟨L.gb k, 0, none⟩) (n + 1) (L.gcap k), .int .i64 tt] w fun e w' => e = .returned (.tuple #[]) ∧ Below B w w' ∧
      IsH w' B L { H with hist := H.hist.set k (endLast H.flown tt H.hist[k]!) } := by
  have hlen := hf.hlen k hk
  have hw1 := hf.works1
  have hnn : n < 1000 := by omega
  have hjn : n < (H.hist[k]!).length := by omega
  have hmem : (H.hist[k]!)[n]! ∈ H.hist[k]! := by rw [getElem!_pos _ n hjn]; exact List.getElem_mem hjn
  have ok := hf.hok k _ hk hmem
  have hfl := hf.flown
  obtain ⟨mn, hmn⟩ : ∃ mn : Nat, ((H.hist[k]!)[n]!).machine = mn := ⟨((H.hist[k]!)[n]!).machine.toNat, by omega⟩
  have hml : mn < H.flown.length := by omega
  have hfb := hf.flowns mn hml
  have s0 := h.histc k hk n hjn 0 _ rfl
  have s3 := h.histc k hk n hjn 3 _ rfl
  have s4 := h.histc k hk n hjn 4 _ rfl
  have s5 := h.histc k hk n hjn 5 _ rfl
  have hne : H.hist[k]! ≠ [] := by intro e; rw [e] at hn; simp at hn
  have fr := fun o => h.frozen (.hist k) ⟨hk, hne⟩ o
  have fr3 := fr (n * 6 + 3)
  have fr4 := fr (n * 6 + 4)
  have fr5 := fr (n * 6 + 5)
  have c6 := h.h6
  have f0 := h.flown0 mn hml
  have f1 := h.flown1 mn hml
  have e1 : L.gb k ≠ L.fb := fun e => by have := h.inj (.hist k) .fb ⟨hk, hne⟩ trivial e; cases this
  have e2 : L.gb k ≠ L.hb := fun e => by have := h.inj (.hist k) .h ⟨hk, hne⟩ trivial e; cases this
  have e3 : L.fb ≠ L.gb k := fun e => e1 e.symm
  have e4 : L.hb ≠ L.gb k := fun e => e2 e.symm
  have hmz : (mn : Int) < (H.flown.length : Int) := by omega
  have hm0 : (0 : Int) ≤ (mn : Int) := by omega
  have HH := Lib.hid h
  have HF := Lib.hid hf
  have HML := Lib.hid hml
  have HJN := Lib.hid hjn
  have HN := Lib.hid hn
  have HK := Lib.hid hk
  clear h hf hml hjn hn hk fr hmem hlen hne
  generalize hs : (H.hist[k]!)[n]! = s at *
  obtain ⟨sm, sp, sf, st, sh, sc⟩ := s
  simp only [HL.blk] at s0 s3 s4 s5 fr3 fr4 fr5 ok hmn
  subst hmn
  rw [Nat.add_zero] at s0
  generalize hfe : H.flown[mn]! = fe at *
  obtain ⟨fe1, fe2⟩ := fe
  simp only at f0 f1 hfb
  have HSE := Lib.hid hs
  have HFE := Lib.hid hfe
  clear hs hfe
  generalize H.flown.length = nf at c6 hmz
  go_enter Tryd.func79, Tryd.ntmps79
  go_wp2
  go_region
  go_end0
  refine ⟨rfl, ?_, ?_⟩
  · have hb := (HH.out.blocks (.hist k) ⟨HK.out, by intro e; have := HN.out; rw [e] at this; simp at this⟩).2
    exact ((((Below.refl B w).setCell (p := ⟨L.gb k, n * 6 + 3, none⟩) hb _).setCell (p := ⟨L.gb k, n * 6 + 4, none⟩) hb _).setCell (p := ⟨L.gb k, n * 6 + 5, none⟩) hb _).drew
  · have hl0 := HF.out.hist
    have hkl : k < H.hist.length := by rw [hl0]; exact HK.out
    have gg : ∀ l : List StretchR, (H.hist.set k l)[k]! = l := fun l => by rw [set_get! _ _ _ _ hkl, if_pos rfl]
    have J1 := HH.out.putHist k HK.out hl0 n HJN.out 3 (by omega) ⟨mn, sp, sf, tt, sh, sc⟩ (.int .i64 tt) (by rw [HSE.out]; rfl)
    have J2 := J1.putHist k HK.out (by rw [List.length_set]; exact hl0) n (by rw [gg, List.length_set]; exact HJN.out) 4 (by omega) ⟨mn, sp, sf, tt, fe1 - sh, sc⟩ (.int .i64 (fe1 - sh)) (by rw [gg, set_get! _ _ _ _ HJN.out, if_pos rfl]; rfl)
    have J3 := J2.putHist k HK.out (by rw [List.length_set, List.length_set]; exact hl0) n (by simp only [List.set_set, gg, List.length_set]; exact HJN.out) 5 (by omega) ⟨mn, sp, sf, tt, fe1 - sh, fe2 - sc⟩ (.int .i64 (fe2 - sc)) (by simp only [List.set_set, gg, set_get! _ _ _ _ HJN.out, if_true]; rfl)
    refine J3.drew.cong ?_
    simp only [List.set_set, gg, endLast, HN.out, Nat.add_sub_cancel, HSE.out, Int.toNat_natCast, HFE.out]
end Go.Proofs.YtchnhjffpldpiaaDoor

/- hangar.check, walked. -/
namespace Go.Proofs.YtchnhjffpldpiaaDoor
open Go.RowKit
attribute [local go_sem] eqi_spot eqi_pair gd_spot gd_pair
attribute [local go_sem ↓] Go.wp_at_zero Go.wp_at_succ

variable {w : World} {B : Nat} {L : HL} {H : HS}

set_option maxRecDepth 100000 in
set_option maxHeartbeats 2000000 in
theorem check_any (h : IsH w B L H) (hf : H.Fit) (n o : Int) :
    Calls Tryd.prog 145 #[.pointer (some ⟨L.hb, 0, none⟩), .int .i64 n, .int .i64 o] w fun e w' =>
      e = .returned (.bool (H.check n o).isSome) ∧ Below B w w' ∧ IsH w' B L ((H.check n o).getD H) := by
  have K1 := Lib.hid (part_any h hf n)
  have K2 := Lib.hid (order_any h hf o)
  have hBw := h.base
  cases g1 : H.part n with
  | false =>
    have hc : H.check n o = none := by simp [HS.check, checkGuard, g1]
    rw [hc]
    rw [g1] at K1
    have HH := Lib.hid h
    clear h hf hc
    go_enter Tryd.func145, Tryd.ntmps145
    go_wp2_with (first | (go_at_call 75; refine K1.out.mono ?_; rintro e w' ⟨rfl, rfl⟩))
    go_ret
    exact ⟨rfl, Below.refl _ _, HH.out⟩
  | true =>
    cases g2 : H.order o with
    | false =>
      have hc : H.check n o = none := by simp [HS.check, checkGuard, g2]
      rw [hc]
      rw [g1] at K1
      rw [g2] at K2
      have HH := Lib.hid h
      clear h hf hc
      go_enter Tryd.func145, Tryd.ntmps145
      go_wp2_with (first | (go_at_call 75; refine K1.out.mono ?_; rintro e w' ⟨rfl, rfl⟩) | (go_at_call 84; refine K2.out.mono ?_; rintro e w' ⟨rfl, rfl⟩))
      go_ret
      exact ⟨rfl, Below.refl _ _, HH.out⟩
    | true =>
      have hi1 := inB_iff.1 g1
      have hi2 := inB_iff.1 g2
      obtain ⟨nn, rfl⟩ : ∃ nn : Nat, n = nn := ⟨n.toNat, by omega⟩
      obtain ⟨oo, rfl⟩ : ∃ oo : Nat, o = oo := ⟨o.toNat, by omega⟩
      have hnn : nn < H.parts.length := by omega
      have hoo : oo < H.reg.orders.length := by omega
      have hs := small_of_valid hf.valid
      have hno := hs.no
      have hnp : H.parts.length ≤ 24 := by rw [hf.parts]; exact hs.np
      rw [g1] at K1
      rw [g2] at K2
      have E : H.check nn oo = if H.issued[oo]! && ((H.parts[nn]!).kind == (H.reg.orders[oo]!).kind && !(H.parts[nn]!).chk[oo]!) then some (H.setPart nn { H.parts[nn]! with chk := (H.parts[nn]!).chk.set oo true }) else none := by
        simp only [HS.check, checkGuard, g1, g2, Bool.true_and, Int.toNat_natCast]
        rfl
      obtain ⟨pv, pcc, hv, hpa⟩ := partsV_eq L H.parts.length
      obtain rfl := hpa (by omega)
      have c4 := h.h4
      rw [hv] at c4
      have c5 := h.h5
      have c3 := h.h3
      have i5 := h.issued hf oo hoo
      have q := h.prow nn hnn
      have q0 := h.p0 hnn
      have q7 := h.p7 hnn
      have cc := h.chk hf nn hnn oo hoo
      have fc : w.frozen? ⟨L.cb nn, oo, none⟩ = false := h.frozen (.chk nn) hnn oo
      obtain ⟨ob, ooff, hoa, hoc⟩ := h.reg.orders.ex
      obtain ⟨hoa, hob⟩ := hoa (by omega)
      have o0 := hoc oo hoo 0 _ rfl
      rw [Nat.add_zero] at o0
      rw [hoa] at c3
      have hoz : (oo : Int) < (H.reg.orders.length : Int) := by omega
      have ho0 : (0 : Int) ≤ (oo : Int) := by omega
      have hnz : (nn : Int) < (H.parts.length : Int) := by omega
      have hn0 : (0 : Int) ≤ (nn : Int) := by omega
      have J := Lib.hid (fun (W : World) (hW : Below w.heap.size w W) => (h.below hW).putChk nn hnn oo true)
      have HBC := Lib.hid (h.blocks (.chk nn) hnn).2
      have HH := Lib.hid h
      have EE := Lib.hid E
      clear h hf E g1 g2 hi1 hi2 hs hv hpa hoc hoa hob hnn hoo
      generalize H.reg.orders[oo]! = ord at *
      obtain ⟨okd, owi⟩ := ord
      simp only at o0
      obtain ⟨pk, hpk⟩ : ∃ x, (H.parts[nn]!).kind = x := ⟨_, rfl⟩
      obtain ⟨pc, hpc⟩ : ∃ x, (H.parts[nn]!).chk[oo]! = x := ⟨_, rfl⟩
      obtain ⟨is, his⟩ : ∃ x, H.issued[oo]! = x := ⟨_, rfl⟩
      rw [hpk] at q0
      rw [hpc] at cc
      rw [his] at i5
      rw [hpk, hpc, his] at EE
      clear hpk hpc his
      generalize H.reg.orders.length = no at *
      generalize H.parts.length = np at *
      cases is with
      | false =>
        go_enter Tryd.func145, Tryd.ntmps145
        go_wp2_with (first | (go_at_call 75; refine K1.out.mono ?_; rintro e w' ⟨rfl, rfl⟩) | (go_at_call 84; refine K2.out.mono ?_; rintro e w' ⟨rfl, rfl⟩))
        go_ret
        rw [EE.out]
        exact ⟨rfl, Below.refl _ _, HH.out⟩
      | true =>
        by_cases hk : pk = okd
        · subst hk
          cases pc with
          | true =>
            have EF : Aside (H.check nn oo = none) := by
              show _ = _
              rw [EE.out]; simp
            clear EE
            go_enter Tryd.func145, Tryd.ntmps145
            go_wp2_with (first | (go_at_call 75; refine K1.out.mono ?_; rintro e w' ⟨rfl, rfl⟩) | (go_at_call 84; refine K2.out.mono ?_; rintro e w' ⟨rfl, rfl⟩))
            go_quiet (fail)
            go_wp2
            go_ret
            rw [EF.out]
            exact ⟨rfl, below_drewN (Below.refl _ _) _, HH.out.below (below_drewN (Below.refl _ _) _)⟩
          | false =>
            have EF : Aside (H.check nn oo = some (H.setPart nn { H.parts[nn]! with chk := (H.parts[nn]!).chk.set oo true })) := by
              show _ = _
              rw [EE.out]; simp
            clear EE
            go_enter Tryd.func145, Tryd.ntmps145
            go_wp2_with (first | (go_at_call 75; refine K1.out.mono ?_; rintro e w' ⟨rfl, rfl⟩) | (go_at_call 84; refine K2.out.mono ?_; rintro e w' ⟨rfl, rfl⟩))
            go_quiet (fail)
            go_wp2
            go_ret
            rw [EF.out]
            refine ⟨rfl, ?_, ?_⟩
            · exact (below_drewN (Below.refl _ _) _).setCell (p := ⟨L.cb nn, oo, none⟩) HBC.out _
            · exact J.out _ (below_drewN (Below.refl _ _) _)
        · have hkb : (pk == okd) = false := by simpa using hk
          have hkn : (pk != okd) = true := by simpa using hk
          have hkd : decide (pk = okd) = false := by simpa using hk
          have EF : Aside (H.check nn oo = none) := by
            show _ = _
            rw [EE.out]; simp [hk]
          clear EE
          go_enter Tryd.func145, Tryd.ntmps145
          go_wp2_with (first | (go_at_call 75; refine K1.out.mono ?_; rintro e w' ⟨rfl, rfl⟩) | (go_at_call 84; refine K2.out.mono ?_; rintro e w' ⟨rfl, rfl⟩))
          go_quiet (fail)
          go_wp2
          go_ret
          rw [EF.out]
          exact ⟨rfl, below_drewN (Below.refl _ _) _, HH.out.below (below_drewN (Below.refl _ _) _)⟩
end Go.Proofs.YtchnhjffpldpiaaDoor

/- A stretch appended to a history: the hangar in memory behind it. No walk. -/
namespace Go.Proofs.YtchnhjffpldpiaaDoor
open Go.RowKit

variable {w : World} {B : Nat} {L : HL} {H : HS}

theorem histLen (l : List StretchR) : (l.flatMap encStretch).length = l.length * 6 := by
  induction l with
  | nil => rfl
  | cons a l ih => simp only [List.flatMap_cons, List.length_append, ih, List.length_cons]; rw [Nat.succ_mul]; simp [encStretch]; omega

theorem IsH.ownsHist (h : IsH w B L H) (k : Nat) (hk : k < H.parts.length) : w.ownsRow B 61 6 (histV L H.hist[k]! k) (H.hist[k]!).length ((H.hist[k]!).flatMap encStretch) := by
  refine ⟨histLen _, ?_⟩
  unfold histV
  by_cases he : H.hist[k]! = []
  · rw [if_pos he, he]; exact .inl ⟨rfl, rfl⟩
  · rw [if_neg he]
    obtain ⟨h1, h2, h3⟩ := h.gcap k hk he
    have hb := h.blocks (.hist k) ⟨hk, he⟩
    refine .inr ⟨L.gb k, L.gcap k, _, rfl, hb.2, hb.1, h1, h2, ?_, ?_⟩
    · simp only [cellsOf, List.size_toArray, List.length_append, histLen, h3]
      rw [← Nat.add_mul]; congr 1; omega
    · simp only [cellsOf]
      rw [← histLen]
      exact List.take_left' rfl

theorem IsH.hrc (h : IsH w B L H) (k : Nat) (hk : k < H.parts.length) : w.cell? ⟨L.hr, k, none⟩ = some (histV L H.hist[k]! k) := by
  rw [show L.hr = L.blk .hr from rfl, h.cell .hr trivial k]
  simp [cellsOf, hk]

theorem IsH.append (h : IsH w B L H) (k : Nat) (hk : k < H.parts.length) (hl : H.hist.length = H.parts.length) (x : StretchR) {w1 w3 : World} {v' : Value} (hb : Below w.heap.size w w1)
    (O : w3.ownsRow B 61 6 v' ((H.hist[k]!).length + 1) ((H.hist[k]!).flatMap encStretch ++ encStretch x)) (G : w1.grownBy w3 (histV L H.hist[k]! k).ownBlock)
    (A : v'.ownBlock = (histV L H.hist[k]! k).ownBlock ∨ v'.ownBlock = some w1.heap.size) :
    ∃ L', L'.hb = L.hb ∧ IsH (w3.setCell ⟨L.hr, k, none⟩ v') B L' { H with hist := H.hist.set k (H.hist[k]! ++ [x]) } := by
  rcases O.2 with ⟨_, hz⟩ | ⟨g, cap, cur, rfl, hBg, hg, hcap, hcm, hcs, ht⟩
  · omega
  have hsz := hb.size
  have hgz := G.size
  have hB : B ≤ w.heap.size := h.base
  have hkh : k < H.hist.length := by omega
  have hgt : ∀ i : Nat, (H.hist.set k (H.hist[k]! ++ [x]))[i]! = if i = k then H.hist[k]! ++ [x] else H.hist[i]! := fun i => set_get! _ _ _ _ hkh
  -- the old block, where there is one
  have hown : ∀ b, (histV L H.hist[k]! k).ownBlock = some b → b = L.gb k ∧ H.hist[k]! ≠ [] := by
    intro b hb'
    unfold histV at hb'
    split at hb'
    · simp [Value.ownBlock] at hb'
    · rename_i hne
      simp [Value.ownBlock] at hb'
      exact ⟨hb'.symm, hne⟩
  have hgA : (H.hist[k]! ≠ [] ∧ g = L.gb k) ∨ g = w1.heap.size := by
    rcases A with A | A
    · have := hown g (by rw [← A]; rfl)
      exact .inl ⟨this.2, this.1⟩
    · simp [Value.ownBlock] at A
      exact .inr A
  -- what is not the history's own block lies as it lay
  have hblk : ∀ s, okSlot H s → s ≠ .hist k → w3.heap[L.blk s]? = w.heap[L.blk s]? := by
    intro s hs hne
    have hlt := h.lt s hs
    rw [G.block _ (by omega) ?_, hb.block _ hlt]
    intro e
    obtain ⟨e1, e2⟩ := hown _ e.symm
    exact hne (h.inj s (.hist k) hs ⟨hk, e2⟩ e1)
  have hgne : ∀ s, okSlot H s → s ≠ .hist k → L.blk s ≠ g := by
    intro s hs hne e
    have hlt := h.lt s hs
    rcases hgA with ⟨e2, e3⟩ | e3
    · exact hne (h.inj s (.hist k) hs ⟨hk, e2⟩ (e.trans e3))
    · omega
  have hglt : g < w3.heap.size := (Array.getElem?_eq_some_iff.1 hg).1
  have okk : ∀ t, t ≠ .hist k → okSlot { H with hist := H.hist.set k (H.hist[k]! ++ [x]) } t → okSlot H t := by
    intro t hne ht'
    cases t with
    | hist i =>
      have hik : i ≠ k := fun e => hne (by rw [e])
      have := ht'
      simp only [okSlot, hgt, if_neg hik] at this
      exact this
    | _ => exact ht'
  have hBW : Below B w (w3.setCell ⟨L.hr, k, none⟩ (.slice (some ⟨g, 0, none⟩) ((H.hist[k]!).length + 1) cap)) := by
    have b1 : Below B w w3 := ⟨G.os.trans hb.os, G.tape.trans hb.tape, G.output.trans hb.output, by omega, fun i hi => by
      rw [G.block i (by omega) ?_, hb.block i (by omega)]
      intro e
      obtain ⟨e1, e2⟩ := hown _ e.symm
      have := (h.blocks (.hist k) ⟨hk, e2⟩).2
      simp only [HL.blk] at this
      omega⟩
    exact b1.setCell (p := ⟨L.hr, k, none⟩) (h.blocks .hr trivial).2 _
  refine ⟨{ L with gb := fun i => if i = k then g else L.gb i, gcap := fun i => if i = k then cap else L.gcap i, gspare := fun i => if i = k then cur.toList.drop (((H.hist[k]!).length + 1) * 6) else L.gspare i }, rfl, h.glb.below hBW, h.reg.below hBW, ?_, ?_, ?_, h.pcap⟩
  · intro s hs
    by_cases e : s = .hist k
    · subst e
      simp only [HL.blk, if_true]
      refine ⟨?_, hBg⟩
      have hne : L.hr ≠ g := hgne .hr trivial (by simp)
      rw [Below.heap_setCell _ _ _ _ (fun e => hne e.symm), hg]
      simp only [cellsOf, tyOf, hgt, if_true, List.flatMap_append, List.flatMap_cons, List.flatMap_nil, List.append_nil]
      rw [← ht, List.take_append_drop]
    · have hs0 := okk s e hs
      have hbeq : HL.blk { L with gb := fun i => if i = k then g else L.gb i, gcap := fun i => if i = k then cap else L.gcap i, gspare := fun i => if i = k then cur.toList.drop (((H.hist[k]!).length + 1) * 6) else L.gspare i } s = L.blk s := by
        cases s with
        | hist i =>
          have hik : i ≠ k := fun e2 => e (by rw [e2])
          simp [HL.blk, hik]
        | _ => rfl
      rw [hbeq]
      refine ⟨?_, (h.blocks s hs0).2⟩
      by_cases e2 : s = .hr
      · subst e2
        have := heap_setCell_at (w := w3) (b := L.hr) (c := cellsOf L H .hr) (T := tyOf .hr) (f := (0, 0)) (by rw [show L.hr = L.blk .hr from rfl, hblk .hr trivial (by simp)]; exact (h.blocks .hr trivial).1) k (.slice (some ⟨g, 0, none⟩) ((H.hist[k]!).length + 1) cap)
        rw [show L.blk .hr = L.hr from rfl, this]
        congr 3
        simp only [cellsOf]
        apply List.ext_getElem
        · simp
        · intro i h1 h2
          rw [List.getElem_set]
          simp only [List.getElem_map, List.getElem_range, hgt]
          by_cases e3 : k = i
          · subst e3
            simp [histV]
          · have e4 : i ≠ k := fun e => e3 e.symm
            simp [histV, e3, e4]
      · rw [Below.heap_setCell _ _ _ _ (fun e3 => e2 (h.inj s .hr hs0 trivial e3)), hblk s hs0 e, (h.blocks s hs0).1]
        congr 3
        cases s with
        | hist i =>
          have hik : i ≠ k := fun e2 => e (by rw [e2])
          simp only [cellsOf, hgt, if_neg hik]
        | hr => exact absurd rfl e2
        | _ => rfl
  · intro s t hs ht' hst
    have hb' : ∀ s, s ≠ .hist k → HL.blk { L with gb := fun i => if i = k then g else L.gb i, gcap := fun i => if i = k then cap else L.gcap i, gspare := fun i => if i = k then cur.toList.drop (((H.hist[k]!).length + 1) * 6) else L.gspare i } s = L.blk s := by
      intro s e
      cases s with
      | hist i =>
        have hik : i ≠ k := fun e2 => e (by rw [e2])
        simp [HL.blk, hik]
      | _ => rfl
    have hbk : HL.blk { L with gb := fun i => if i = k then g else L.gb i, gcap := fun i => if i = k then cap else L.gcap i, gspare := fun i => if i = k then cur.toList.drop (((H.hist[k]!).length + 1) * 6) else L.gspare i } (.hist k) = g := by simp [HL.blk]
    by_cases e1 : s = .hist k
    · by_cases e2 : t = .hist k
      · rw [e1, e2]
      · rw [e1, hbk, hb' t e2] at hst
        exact absurd hst.symm (hgne t (okk t e2 ht') e2)
    · by_cases e2 : t = .hist k
      · rw [e2, hbk, hb' s e1] at hst
        exact absurd hst (hgne s (okk s e1 hs) e1)
      · rw [hb' s e1, hb' t e2] at hst
        exact h.inj s t (okk s e1 hs) (okk t e2 ht') hst
  · intro i hi hne
    simp only [hgt] at hne ⊢
    by_cases e : i = k
    · subst e
      simp only [if_true, List.length_append, List.length_cons, List.length_nil, Nat.zero_add]
      refine ⟨hcap, hcm, ?_⟩
      rw [List.length_drop, Array.length_toList, hcs, ← Nat.sub_mul]
    · simp only [if_neg e] at hne ⊢
      exact h.gcap i hi hne

end Go.Proofs.YtchnhjffpldpiaaDoor

/- hangar.fit, walked. -/
namespace Go.Proofs.YtchnhjffpldpiaaDoor
open Go.RowKit
attribute [local go_sem] eqi_spot eqi_pair gd_spot gd_pair
attribute [local go_sem ↓] Go.wp_at_zero Go.wp_at_succ

variable {w : World} {B : Nat} {L : HL} {H : HS}

theorem info_stretch : ((Tryd.prog).info? 61).map (fun i => (i.zero, i.size, i.bytes)) = some (some (.agg #[.int .i64 0, .int .i64 0, .int .i64 0, .int .i64 0, .int .i64 0, .int .i64 0]), 6, 48) := by kernel_rfl

theorem IsH.own_ne (h : IsH w B L H) (k : Nat) (hk : k < H.parts.length) (s : Slot) (hs : okSlot H s) (hne : s ≠ .hist k) : (histV L H.hist[k]! k).ownBlock ≠ some (L.blk s) := by
  unfold histV
  split
  · simp [Value.ownBlock]
  · rename_i he
    simp only [Value.ownBlock, ne_eq, Option.some.injEq]
    intro e
    exact hne (h.inj s (.hist k) hs ⟨hk, he⟩ e.symm)

/-- What a work leaves: whether it was possible, and the hangar behind it. -/
def Did (w : World) (B : Nat) (L : HL) (H : HS) (r : Option HS) (e : Ending) (w' : World) : Prop :=
  e = .returned (.bool r.isSome) ∧ Below B w w' ∧ ∃ L', L'.hb = L.hb ∧ IsH w' B L' (r.getD H)

theorem did_no {r : Option HS} (hr : r = none) (h : IsH w B L H) {w' : World} (hb : Below w.heap.size w w') : Did w B L H r (.returned (.bool false)) w' := by
  subst hr
  exact ⟨rfl, hb.mono h.base, L, rfl, h.below hb⟩

theorem within_q (n lo hi : Int) (r : Bool) (h : inB n lo hi = r) (w : World) :
    Calls Tryd.prog 66 #[.int .i64 n, .int .i64 lo, .int .i64 hi] w fun e w' => e = .returned (.bool r) ∧ w' = w :=
  (within_any n lo hi w).mono fun _ _ hh => ⟨by rw [← h]; exact hh.1, hh.2.symm⟩

theorem within_r (n lo hi : Int) (r : Bool) (h : inB n lo hi = r) (w : World) :
    Calls Tryd.prog 66 #[.int .i64 n, .int .i64 lo, .int .i64 hi] w fun e w' => e = .returned (.bool r) ∧ w = w' :=
  (within_any n lo hi w).mono fun _ _ hh => ⟨by rw [← h]; exact hh.1, hh.2⟩

set_option maxRecDepth 100000 in
set_option maxHeartbeats 1000000 in
theorem fit_any (h : IsH w B L H) (hf : H.Fit) (n m pl : Int) :
    Calls Tryd.prog 144 #[.pointer (some ⟨L.hb, 0, none⟩), .int .i64 n, .int .i64 m, .int .i64 pl] w (Did w B L H (H.fit n m pl)) := by
  have K1 := Lib.hid (part_any h hf n)
  have K2 := Lib.hid (machine_any h hf m)
  have hBw := h.base
  cases g1 : H.part n with
  | false =>
    have hc : H.fit n m pl = none := by simp [HS.fit, fitGuard, g1]
    have HC := Lib.hid hc
    rw [g1] at K1
    have HH := Lib.hid h
    clear h hf hc
    go_enter Tryd.func144, Tryd.ntmps144
    go_wp2_with (first | (go_at_call 75; refine K1.out.mono ?_; rintro e w' ⟨rfl, rfl⟩))
    go_ret
    exact did_no HC.out HH.out (Below.refl _ _)
  | true =>
    cases g2 : H.machine m with
    | false =>
      have hc : H.fit n m pl = none := by simp [HS.fit, fitGuard, g2]
      have HC := Lib.hid hc
      rw [g1] at K1
      rw [g2] at K2
      have HH := Lib.hid h
      clear h hf hc
      go_enter Tryd.func144, Tryd.ntmps144
      go_wp2_with (first | (go_at_call 75; refine K1.out.mono ?_; rintro e w' ⟨rfl, rfl⟩) | (go_at_call 65; refine K2.out.mono ?_; rintro e w' ⟨rfl, rfl⟩))
      go_ret
      exact did_no HC.out HH.out (Below.refl _ _)
    | true =>
      have hi1 := inB_iff.1 g1
      have hi2 := inB_iff.1 g2
      obtain ⟨nn, rfl⟩ : ∃ nn : Nat, n = nn := ⟨n.toNat, by omega⟩
      obtain ⟨mm, rfl⟩ : ∃ mm : Nat, m = mm := ⟨m.toNat, by omega⟩
      have hnn : nn < H.parts.length := by omega
      have hmm : mm < H.flown.length := by have := hf.flown; omega
      have hs := small_of_valid hf.valid
      have hm4 := hs.m1
      have hnp : H.parts.length ≤ 24 := by rw [hf.parts]; exact hs.np
      rw [g1] at K1
      rw [g2] at K2
      have hkd := hf.kind0 nn hnn
      have hnk := hs.nk
      obtain ⟨kn, hkn⟩ : ∃ kn : Nat, (H.parts[nn]!).kind = kn := ⟨(H.parts[nn]!).kind.toNat, by omega⟩
      have hknl : kn < H.reg.kinds.length := by omega
      have hK := hs.kinds kn hknl
      obtain ⟨p, hp⟩ : ∃ p, H.parts[nn]! = p := ⟨_, rfl⟩
      obtain ⟨K, hKe⟩ : ∃ K, H.reg.kinds[kn]! = K := ⟨_, rfl⟩
      have E : H.fit nn mm pl = if (p.im == -1 && p.ip == -1) && (p.known && (inB pl 0 (K.places - 1) && decide (H.at kn mm pl < 0))) then
          some { H with parts := H.parts.set nn { p with im := mm, ip := pl }, hist := H.hist.set nn (H.hist[nn]! ++ [⟨mm, pl, H.works, -1, (H.flown[mm]!).1, (H.flown[mm]!).2⟩]) } else none := by
        simp only [HS.fit, fitGuard, g1, g2, Bool.true_and, Int.toNat_natCast, hp]
        rw [hp] at hkn
        simp only [hkn, Int.toNat_natCast, hKe]
      obtain ⟨pv, pcc, hv, hpa⟩ := partsV_eq L H.parts.length
      obtain rfl := hpa (by omega)
      have c4 := h.h4
      rw [hv] at c4
      have HGL := h.glb.lt
      have hgs : 1 < w.heap.size := by omega
      have hlh : L.hb < w.heap.size := h.lt .h trivial
      have hlp : L.pb nn < w.heap.size := h.lt (.part nn) hnn
      have hlr : L.pr < w.heap.size := h.lt .pr (by show 0 < _; omega)
      have c0 := h.h0
      have q := h.prow nn hnn
      have q0 := h.p0 hnn
      have q3 := h.p3 hnn
      have q4 := h.p4 hnn
      have q5 := h.p5 hnn
      have s0 := h.glb.s0
      have s1 := h.glb.s1
      obtain ⟨kb, koff, hka, hkc⟩ := h.reg.kinds.ex
      obtain ⟨hka, hkb⟩ := hka (by omega)
      have k2 := hkc kn hknl 2 _ rfl
      rw [hka] at c0
      have hkw : kb < w.heap.size := by omega
      have KAT := Lib.hid (fun (W : World) (hW : Below w.heap.size w W) => at_any (h.below hW) hf kn mm pl)
      have hnz : (nn : Int) < (H.parts.length : Int) := by omega
      have hn0 : (0 : Int) ≤ (nn : Int) := by omega
      have hkz : (kn : Int) < (H.reg.kinds.length : Int) := by omega
      have hk0 : (0 : Int) ≤ (kn : Int) := by omega
      have HH := Lib.hid h
      have HF := Lib.hid hf
      have EE := Lib.hid E
      rw [hp] at q0 q3 q4 q5 hkn hkd
      rw [hKe] at hK k2
      have HP := Lib.hid hp
      have HNN := Lib.hid hnn
      have HMM := Lib.hid hmm
      clear h hf E g1 g2 hi1 hi2 hs hv hpa hkc hka hp hKe hkd hnn hmm hknl
      obtain ⟨pk, ph, pcy, pkn, pim, pip, psn, pch⟩ := p
      obtain ⟨Kh, Kc, Kp⟩ := K
      simp only at q0 q3 q4 q5 hkn hK k2
      subst hkn
      generalize H.parts.length = np at c4 hnz hnp
      generalize H.reg.kinds.length = nk at c0 hnk hkz
      go_enter Tryd.func144, Tryd.ntmps144
      go_wp2_with (first | (go_at_call 75; refine K1.out.mono ?_; rintro e w' ⟨rfl, rfl⟩) | (go_at_call 65; refine K2.out.mono ?_; rintro e w' ⟨rfl, rfl⟩))
      have b1 : Below w.heap.size w (w.alloc (Obj.cells #[Value.int IntKind.i64 mm, Value.int IntKind.i64 pl] 113)) := (Below.refl _ _).alloc (Nat.le_refl _) _
      have B1 := Lib.hid b1
      clear b1
      by_cases hst : pim = -1 ∧ pip = -1
      · obtain ⟨rfl, rfl⟩ := hst
        cases pkn with
        | false =>
          go_quiet (fail)
          go_wp2
          go_ret
          exact did_no (by rw [EE.out]; simp) HH.out (below_drewN B1.out _)
        | true =>
          cases hin : inB pl 0 (Kp - 1) with
          | false =>
            have HIN := Lib.hid hin
            clear hin
            go_quiet ((go_at_call 66; exact Calls.quiet_of_same (within_q _ _ _ _ HIN.out _)))
            go_wp2
            go_ret
            exact did_no (by rw [EE.out, HIN.out]; simp) HH.out (below_drewN B1.out _)
          | true =>
            have HIN := Lib.hid hin
            clear hin
            refine code_named fun W hW => ?_
            have bW := B1.out
            rw [← hW] at bW
            have d0 : W.cell? ⟨w.heap.size, 0, none⟩ = some (.int .i64 mm) := by rw [hW]; simp
            have d1 : W.cell? ⟨w.heap.size, 1, none⟩ = some (.int .i64 pl) := by rw [hW]; simp
            have hWs : W.heap.size = w.heap.size + 1 := by rw [hW]; simp
            have x0 : ∀ x : Bel W, x.1.cell? ⟨w.heap.size, 0, none⟩ = some (.int .i64 mm) := fun x => by rw [x.2.cell (by simp; omega)]; exact d0
            have x1 : ∀ x : Bel W, x.1.cell? ⟨w.heap.size, 1, none⟩ = some (.int .i64 pl) := fun x => by rw [x.2.cell (by simp; omega)]; exact d1
            have xb : ∀ x : Bel W, Below w.heap.size w x.1 := fun x => bW.trans (x.2.mono (by omega))
            have y0 : ∀ x : Bel W, x.1.cell? ⟨L.hb, 0, none⟩ = some (.slice (some ⟨kb, koff, none⟩) nk L.kc) := fun x => by rw [(xb x).cell (by simp; omega)]; exact c0
            have y1 : ∀ x : Bel W, x.1.cell? ⟨L.pb nn, 0, none⟩ = some (.int .i64 (kn : Int)) := fun x => by rw [(xb x).cell (by simp; omega)]; exact q0
            have y2 : ∀ x : Bel W, x.1.cell? ⟨L.pb nn, 3, none⟩ = some (.bool true) := fun x => by rw [(xb x).cell (by simp; omega)]; exact q3
            have y3 : ∀ x : Bel W, x.1.cell? ⟨L.pb nn, 4, none⟩ = some (.int .i64 (-1)) := fun x => by rw [(xb x).cell (by simp; omega)]; exact q4
            have y4 : ∀ x : Bel W, x.1.cell? ⟨L.pb nn, 5, none⟩ = some (.int .i64 (-1)) := fun x => by rw [(xb x).cell (by simp; omega)]; exact q5
            have y5 : ∀ x : Bel W, x.1.cell? ⟨1, 0, none⟩ = some (.int .i64 (-1)) := fun x => by rw [(xb x).cell (by simp; omega)]; exact s0
            have y6 : ∀ x : Bel W, x.1.cell? ⟨1, 1, none⟩ = some (.int .i64 (-1)) := fun x => by rw [(xb x).cell (by simp; omega)]; exact s1
            have y7 : ∀ x : Bel W, x.1.cell? ⟨kb, koff + kn * 3 + 2, none⟩ = some (.int .i64 Kp) := fun x => by rw [(xb x).cell (by simp; omega)]; exact k2
            have XB := Lib.hid xb
            have BWH := Lib.hid bW
            have HWS := Lib.hid hWs
            have D0 := Lib.hid d0
            have D1 := Lib.hid d1
            clear hW d0 d1 xb bW hWs q q0 q3 q4 q5 s0 s1 k2 c0 c4
            refine wp_region_below (by kernel_rfl) (by kernel_rfl) ?_
            repeat (any_goals (first
              | go_big_quiet_step (first | (go_at_call 66; exact Calls_bel_same _ (within_r _ _ _ _ HIN.out _)) | (go_at_call 104; exact Calls_bel _ (KAT.out _ (XB.out _))))
              | quiet_step (first | (go_at_call 66; exact Calls_bel_same _ (within_r _ _ _ _ HIN.out _)) | (go_at_call 104; exact Calls_bel _ (KAT.out _ (XB.out _))))))
            refine wpQuiet_nil ?_
            rintro wc ⟨x, hx⟩
            have hwc : Below W.heap.size W wc := by rw [hx]; exact x.2
            clear hx x
            have bw : Below w.heap.size w wc := XB.out ⟨wc, hwc⟩
            have u0 : wc.cell? ⟨w.heap.size, 0, none⟩ = some (.int .i64 mm) := x0 ⟨wc, hwc⟩
            have u1 : wc.cell? ⟨w.heap.size, 1, none⟩ = some (.int .i64 pl) := x1 ⟨wc, hwc⟩
            have BW := Lib.hid bw
            clear x0 x1 y0 y1 y2 y3 y4 y5 y6 y7 bw hwc
            by_cases hat : H.at kn mm pl < 0
            · have hI := HH.out.below BW.out
              have t4 := hI.p4 HNN.out
              have t5 := hI.p5 HNN.out
              have f4 := hI.frp nn HNN.out 4
              have f5 := hI.frp nn HNN.out 5
              rw [HP.out] at t4 t5
              simp only at t4 t5
              have J1 := (hI.putPart nn HNN.out 4 (.int .i64 mm) { H.parts[nn]! with im := mm } rfl rfl rfl)
              have J2 := (J1.putPart nn (by rw [HS.setPart_len]; exact HNN.out) 5 (.int .i64 pl) { H.parts[nn]! with im := mm, ip := pl } (by rw [HS.setPart_get _ _ _ _ HNN.out, if_pos rfl]; rfl) (by rw [HS.setPart_get _ _ _ _ HNN.out, if_pos rfl]) (by rw [HS.setPart_get _ _ _ _ HNN.out, if_pos rfl]))
              have J3 : Aside (IsH ((wc.setCell ⟨L.pb nn, 4, none⟩ (.int .i64 mm)).setCell ⟨L.pb nn, 5, none⟩ (.int .i64 pl)) B L { H with parts := H.parts.set nn { H.parts[nn]! with im := mm, ip := pl } }) := by
                refine J2.cong ?_
                simp only [HS.setPart, List.set_set]
              have hBp := (hI.blocks (.part nn) HNN.out).2
              have BJ := Lib.hid (((BW.out.mono hBw).setCell (p := ⟨L.pb nn, 4, none⟩) hBp (.int .i64 mm)).setCell (p := ⟨L.pb nn, 5, none⟩) hBp (.int .i64 pl))
              clear hI J1 J2 hBp
              go_upto_region 7 with (fail)
              refine code_named fun W2 hW2 => ?_
              have J4 : IsH W2 B L { H with parts := H.parts.set nn { H.parts[nn]! with im := mm, ip := pl } } := by rw [hW2]; exact J3
              have B4 : Below B w W2 := by rw [hW2]; exact BJ.out
              clear hW2 J3 BJ u0 u1 t4 t5 f4 f5
              have hnl : nn < (H.parts.set nn { H.parts[nn]! with im := mm, ip := pl }).length := by rw [List.length_set]; exact HNN.out
              have v6 := J4.h6
              have v7 := J4.h7
              have v8 := J4.h8
              have vh := J4.hrc nn hnl
              have f0 := J4.flown0 mm HMM.out
              have f1 := J4.flown1 mm HMM.out
              have fh : W2.frozen? ⟨L.hr, nn, none⟩ = false := J4.frozen .hr trivial nn
              have fh2 : ∀ o : Obj, (W2.alloc o).frozen? ⟨L.hr, nn, none⟩ = false := fun o => by rw [World.frozen?_alloc_old _ _ _ (by have := J4.lt .hr trivial; simp only [HL.blk] at this; simp only; omega)]; exact fh
              have OW := J4.ownsHist nn hnl
              have ag : (histV L H.hist[nn]! nn).ownBlock ≠ some L.hb := J4.own_ne nn hnl .h trivial (by simp)
              have ar : (histV L H.hist[nn]! nn).ownBlock ≠ some L.hr := J4.own_ne nn hnl .hr trivial (by simp)
              have af : (histV L H.hist[nn]! nn).ownBlock ≠ some L.fb := J4.own_ne nn hnl .fb trivial (by simp)
              have l1 : L.hb < W2.heap.size := J4.lt .h trivial
              have l2 : L.hr < W2.heap.size := J4.lt .hr trivial
              have l3 : L.fb < W2.heap.size := J4.lt .fb trivial
              have hlen := HF.out.hlen nn HNN.out
              have hw1 := HF.out.works1
              have hBJ := J4.base
              have hrB := Lib.hid ((J4.blocks .hr trivial).2)
              have JA := Lib.hid (fun (x : StretchR) (w1 w3 : World) (v' : Value) hb O G A => J4.append nn hnl (by rw [List.length_set]; exact HF.out.hist) x (w1 := w1) (w3 := w3) (v' := v') hb O G A)
              simp only [List.length_set] at v6 v7 v8 vh f0 f1 fh OW ag ar af
              obtain ⟨i0, hi, hz0, hz1, hz2⟩ := info_parts info_stretch
              have hfz : (mm : Int) < (H.flown.length : Int) := by have := HMM.out; omega
              have hf0 : (0 : Int) ≤ (mm : Int) := by omega
              have hll : (H.hist[nn]!).length ≤ 200 := by omega
              clear J4 hnl hlen
              have B5 := Lib.hid B4
              have OW' := Lib.hid OW
              clear B4 OW
              generalize hov : histV L H.hist[nn]! nn = ov at vh ag ar af
              have HOV := Lib.hid hov
              clear hov
              generalize hfe : H.flown[mm]! = fe at f0 f1
              obtain ⟨fe1, fe2⟩ := fe
              simp only at f0 f1
              have HFE := Lib.hid hfe
              clear hfe
              generalize hnf : H.flown.length = nf at v6 hfz
              clear hnf
              generalize hnpp : H.parts.length = npp at v8
              have hnpz : (nn : Int) < (npp : Int) := by have := HNN.out; omega
              clear hnpp
              generalize hwk : H.works = wk at v7
              have HWK := Lib.hid hwk
              clear hwk hw1
              have OW2 : W2.ownsRow B 61 6 ov (H.hist[nn]!).length ((H.hist[nn]!).flatMap encStretch) := by rw [← HOV.out]; exact OW'.out
              obtain ⟨hl, hhl⟩ : ∃ hl, (H.hist[nn]!).length = hl := ⟨_, rfl⟩
              rw [hhl] at OW2 hll
              have HHL := Lib.hid hhl
              clear hhl
              have OW3 := Lib.hid OW2
              clear OW2
              have obB : ∀ k, ov.ownBlock = some k → B ≤ k := by
                intro k hk
                rcases OW3.out.2 with ⟨hv, _⟩ | ⟨g, cap, cur, hv, hg, _⟩
                · rw [hv] at hk; cases hk
                · rw [hv] at hk; cases hk; exact hg
              have OBB := Lib.hid obB
              clear obB
              have hA63 : hl + 1 ≤ maxLen := by simp only [maxLen]; omega
              have hA16 : (hl + 1) * 48 ≤ 140737488355328 := by omega
              have hA6 : 0 < 6 := by decide
              have hA0 : 0 < 1 := by decide
              have hA1 : ∀ u ∈ [Value.int .i64 mm, Value.int .i64 pl, Value.int .i64 wk, Value.int .i64 (-1), Value.int .i64 fe1, Value.int .i64 fe2], u.oneCell' = true := by simp [Value.oneCell']
              have hAB : ∀ o : Obj, B ≤ (W2.alloc o).drew.heap.size := fun o => by
                show B ≤ (W2.alloc o).heap.size
                rw [World.size_alloc]; omega
              have hAS : ∀ o : Obj, (W2.alloc o).drew.heap.size = W2.heap.size + 1 := fun o => World.size_alloc W2 o
              have y0 : ∀ x : Kept W2 [⟨L.hb, 6, none⟩, ⟨L.hb, 7, none⟩, ⟨L.hb, 8, none⟩, ⟨L.hr, nn, none⟩, ⟨L.fb, mm * 2, none⟩, ⟨L.fb, mm * 2 + 1, none⟩], x.1.cell? ⟨L.hb, 6, none⟩ = some (.slice (some ⟨L.fb, 0, none⟩) nf nf) := fun x => x.cell (by simp) v6
              have y1 : ∀ x : Kept W2 [⟨L.hb, 6, none⟩, ⟨L.hb, 7, none⟩, ⟨L.hb, 8, none⟩, ⟨L.hr, nn, none⟩, ⟨L.fb, mm * 2, none⟩, ⟨L.fb, mm * 2 + 1, none⟩], x.1.cell? ⟨L.hb, 7, none⟩ = some (.int .i64 wk) := fun x => x.cell (by simp) v7
              have y2 : ∀ x : Kept W2 [⟨L.hb, 6, none⟩, ⟨L.hb, 7, none⟩, ⟨L.hb, 8, none⟩, ⟨L.hr, nn, none⟩, ⟨L.fb, mm * 2, none⟩, ⟨L.fb, mm * 2 + 1, none⟩], x.1.cell? ⟨L.hb, 8, none⟩ = some (.slice (some ⟨L.hr, 0, none⟩) npp npp) := fun x => x.cell (by simp) v8
              have y3 : ∀ x : Kept W2 [⟨L.hb, 6, none⟩, ⟨L.hb, 7, none⟩, ⟨L.hb, 8, none⟩, ⟨L.hr, nn, none⟩, ⟨L.fb, mm * 2, none⟩, ⟨L.fb, mm * 2 + 1, none⟩], x.1.cell? ⟨L.hr, nn, none⟩ = some ov := fun x => x.cell (by simp) vh
              have y4 : ∀ x : Kept W2 [⟨L.hb, 6, none⟩, ⟨L.hb, 7, none⟩, ⟨L.hb, 8, none⟩, ⟨L.hr, nn, none⟩, ⟨L.fb, mm * 2, none⟩, ⟨L.fb, mm * 2 + 1, none⟩], x.1.cell? ⟨L.fb, mm * 2, none⟩ = some (.int .i64 fe1) := fun x => x.cell (by simp) f0
              have y5 : ∀ x : Kept W2 [⟨L.hb, 6, none⟩, ⟨L.hb, 7, none⟩, ⟨L.hb, 8, none⟩, ⟨L.hr, nn, none⟩, ⟨L.fb, mm * 2, none⟩, ⟨L.fb, mm * 2 + 1, none⟩], x.1.cell? ⟨L.fb, mm * 2 + 1, none⟩ = some (.int .i64 fe2) := fun x => x.cell (by simp) f1
              refine wp_region_last_lit 38 35 4 (fun W => ∃ x : Kept W2 [⟨L.hb, 6, none⟩, ⟨L.hb, 7, none⟩, ⟨L.hb, 8, none⟩, ⟨L.hr, nn, none⟩, ⟨L.fb, mm * 2, none⟩, ⟨L.fb, mm * 2 + 1, none⟩], W = x.1) (by kernel_rfl) (by rfl) (by rfl) rfl rfl (by kernel_rfl) rfl (by decide) (by kernel_rfl) (by kernel_rfl) (by kernel_rfl) (by intro c a d v w h; cases d <;> exact h) (KeptAt.refl _ _).drew ?_
              simp only [List.take_succ_cons, List.take_zero, List.cons_append, List.nil_append, nopOf]
              repeat (any_goals (first | go_big_quiet_step (fail) | quiet_step (fail)))
              refine wpQuiet_nil ?_
              have lk : ∀ p ∈ ([⟨L.hb, 6, none⟩, ⟨L.hb, 7, none⟩, ⟨L.hb, 8, none⟩, ⟨L.hr, nn, none⟩, ⟨L.fb, mm * 2, none⟩, ⟨L.fb, mm * 2 + 1, none⟩] : List Addr), p.block < W2.heap.size ∧ some p.block ≠ ov.ownBlock := by
                intro p hp
                simp only [List.mem_cons, List.not_mem_nil, or_false] at hp
                rcases hp with rfl | rfl | rfl | rfl | rfl | rfl <;> exact ⟨by assumption, Ne.symm (by assumption)⟩
              have LK := Lib.hid lk
              clear lk
              refine wpAnyH_one (e := 35) (by kernel_rfl) rfl rfl (fun K hK => ?_)
              go_simp
              refine hK _ _ ((KeptAt.refl _ _).drew.below (fun p hp => (LK.out p hp).1) ((Below.refl _ _).alloc (Nat.le_refl _) _)) ?_
              clear hK K
              refine wpAnyH_one (e := 36) (by kernel_rfl) rfl rfl (fun K hK => ?_)
              refine wp_append_lies _ _ _ _ (by rfl) B 61 i0 _ 6 48 Tryd.underlying57 hi hz0 hz1 hz2 rfl hA6 ov hl ((H.hist[nn]!).flatMap encStretch) (by rfl) (OW3.out.drew.alloc _) ⟨W2.heap.size, 0, none⟩ 1 1 [.int .i64 mm, .int .i64 pl, .int .i64 wk, .int .i64 (-1), .int .i64 fe1, .int .i64 fe2] (by rfl) (by rfl) (World.news_of_block (cs := #[.int .i64 mm, .int .i64 pl, .int .i64 wk, .int .i64 (-1), .int .i64 fe1, .int .i64 fe2]) (t := 61) (fr := (0, 0)) (heap_alloc_new W2.drew _)) hA1 hA0 hA63 hA16 (hAB _) (W2.heap.size + 1) (hAS _) ?_
              intro g cap w3 O3 G3 A3 g3
              have K3 := (((KeptAt.refl W2 [⟨L.hb, 6, none⟩, ⟨L.hb, 7, none⟩, ⟨L.hb, 8, none⟩, ⟨L.hr, nn, none⟩, ⟨L.fb, mm * 2, none⟩, ⟨L.fb, mm * 2 + 1, none⟩]).drew.below (fun p hp => (LK.out p hp).1) ((Below.refl _ _).alloc (Nat.le_refl _) _)).grown (fun p hp => ⟨by rw [World.size_alloc]; have := (LK.out p hp).1; simp only [World.drew]; omega, (LK.out p hp).2⟩) G3)
              refine hK _ _ K3 ?_
              clear hK K
              have K3' := K3
              obtain ⟨x3, hx3⟩ := K3'
              have z8 : w3.cell? ⟨L.hr, nn, none⟩ = some ov := by rw [hx3]; exact x3.cell (by simp) vh
              have zf : w3.frozen? ⟨L.hr, nn, none⟩ = false := by rw [hx3]; exact x3.frozen (by simp) fh
              clear hx3 x3
              have O3' := Lib.hid O3
              have G3' := Lib.hid G3
              have A3' := Lib.hid A3
              clear O3 G3 A3 y0 y1 y2 y3 y4 y5
              refine wpAnyH_one (e := 37) (by kernel_rfl) rfl rfl (fun K hK => ?_)
              go_simp
              refine hK _ _ K3 ?_
              clear hK K
              refine wpAnyH_fin_lit rfl rfl rfl rfl (by kernel_rfl) (by kernel_rfl) K3 ?_
              go_simp
              rename_i hat2 KK hKK
              refine hKK _ _ ?_
              clear hKK KK z8 zf K3 hA0 hA1 hA63 hA16 hAB hAS fh fh2 f0 f1 v6 v7 v8 vh ag ar af hi hz0 hz1 hz2
              have hb1 : Below W2.heap.size W2 (W2.drew.alloc (.cells #[.int .i64 mm, .int .i64 pl, .int .i64 wk, .int .i64 (-1), .int .i64 fe1, .int .i64 fe2] 61)) := (Below.refl _ _).drew.alloc (Nat.le_refl _) _
              have O4 := O3'.out
              rw [← HHL.out] at O4
              obtain ⟨L', hL', HI⟩ := JA.out ⟨mm, pl, wk, -1, fe1, fe2⟩ _ w3 _ hb1 O4 (by rw [← HOV.out] at G3'; exact G3'.out) (by
                rcases A3'.out with h | h
                · exact .inl (by rw [← HOV.out] at h; exact h.symm)
                · exact .inr (by rw [h]; show some (W2.heap.size + 1) = some ((W2.drew.alloc _).heap.size); rw [World.size_alloc]; rfl))
              have b9 : Below B w (w3.setCell ⟨L.hr, nn, none⟩ (.slice (some ⟨g, 0, none⟩) (hl + 1) cap)) :=
                ((B5.out.trans (hb1.mono hBJ)).grown G3'.out (by rw [World.size_alloc]; show B ≤ W2.heap.size + 1; omega) OBB.out).setCell hrB.out _
              have e2 := EE.out
              rw [HIN.out, if_pos (by simp; exact hat2)] at e2
              have D9 : Did w B L H (H.fit nn mm pl) (.returned (.bool true)) (w3.setCell ⟨L.hr, nn, none⟩ (.slice (some ⟨g, 0, none⟩) (hl + 1) cap)) := by
                refine ⟨by rw [e2]; rfl, b9, L', hL', ?_⟩
                rw [e2, HFE.out]
                rw [HP.out, HHL.out, ← HWK.out] at HI
                exact HI
              have DD := Lib.hid D9
              clear HI D9 b9 e2 O4 hb1
              go_wp2
              go_ret
              exact DD.out
            · go_wp2
              go_ret
              exact did_no (by rw [EE.out, HIN.out]; simp; omega) HH.out BW.out
      · have hb : (pim == -1 && pip == -1) = false := by
          rw [Bool.and_eq_false_iff]
          simp only [beq_eq_false_iff_ne]
          omega
        go_quiet (fail)
        go_wp2
        go_ret
        exact did_no (by rw [EE.out]; simp [hb]) HH.out (below_drewN B1.out _)
end Go.Proofs.YtchnhjffpldpiaaDoor
