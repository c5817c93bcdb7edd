/- Regions that draw their order and whose LAST operation writes what the others read: the others are walked under one condition on the world, the last one is carried out at the end. -/
import Derived.Test.YtchnhjffpldpiaaDoorBel
import Derived.OrdersHeld
import Derived.StillTail
import Derived.Deep.AppendLies
namespace Go.Proofs.YtchnhjffpldpiaaDoor
open Go.RowKit

section
variable {P : Program} {Q : Exit → Act → World → Prop} {md : Region.Mode} {S : World → Prop}

/-- Operations that yield a value and nothing else. -/
def pureOp : Op → Bool
  | .move _ | .assign _ | .pick .. | .build .. | .load .. | .binOp .. | .unOp .. | .convert .. | .fieldAddr .. | .field .. | .indexAddr .. | .index .. | .extract .. | .slice .. | .nilCheck _ => true
  | .call c => match c.callee with
    | .builtin .len => true
    | _ => false
  | _ => false

theorem andThen_value {s : Sem Value} {w w' : World} {n : Next} (h : (s >>= fun x => pure (Next.value x)).run P w = .ok n w') : ∃ u, n = .value u := by
  rw [Sem.run_bind] at h
  cases hr : s.run P w with
  | ok x w1 =>
    rw [hr] at h
    simp only [Result.andThen_ok, Sem.run_pure, Result.ok.injEq] at h
    exact ⟨x, h.1.symm⟩
  | halt x w1 => rw [hr] at h; simp [Result.andThen] at h

theorem andThen_value' {α : Type} {s : Sem α} {f : α → Value} {w w' : World} {n : Next} (h : (s >>= fun x => pure (Next.value (f x))).run P w = .ok n w') : ∃ u, n = .value u := by
  rw [Sem.run_bind] at h
  cases hr : s.run P w with
  | ok x w1 =>
    rw [hr] at h
    simp only [Result.andThen_ok, Sem.run_pure, Result.ok.injEq] at h
    exact ⟨f x, h.1.symm⟩
  | halt x w1 => rw [hr] at h; simp [Result.andThen] at h

theorem pureOp_value {o : Oper} (ho : pureOp o.op = true) {ρ : Operand → Value} {w w' : World} {n : Next} (h : (execOp ρ o).run P w = .ok n w') : ∃ u, n = .value u := by
  unfold execOp at h
  cases hop : o.op <;> simp only [hop, pureOp] at h ho <;> first
    | (cases ho; done)
    | exact andThen_value h
    | exact andThen_value' h
    | (simp only [Sem.run_pure, Result.ok.injEq] at h; exact ⟨_, h.1.symm⟩)
    | skip
  case call c =>
    obtain ⟨callee, args, ats⟩ := c
    cases callee with
    | builtin b =>
      cases b <;> first
        | (cases ho; done)
        | skip
      simp only [resolve, invoke, builtin, Sem.run_bind, Sem.run_pure, Result.andThen_ok] at h
      generalize Sem.run P _ w = r at h
      cases r with
      | ok x w1 =>
        simp only [Result.andThen_ok, Result.ok.injEq] at h
        exact ⟨x, h.1.symm⟩
      | halt x w1 => simp [Result.andThen] at h
    | _ => cases ho
  rename_i x
  have hp : ∀ (w w' : World) (n : Next), (runtimePanic (α := Next) .nilDeref).run P w = .ok n w' → False := by
    intro w w' n h
    simp [runtimePanic, goPanic, go_sem] at h
  generalize ρ x = v at h
  split at h
  · exact (hp _ _ _ h).elim
  · exact (hp _ _ _ h).elim
  · exact (hp _ _ _ h).elim
  · split at h
    · exact (hp _ _ _ h).elim
    · simp only [Sem.run_bind] at h
      rename_i t v' _
      generalize hr : Sem.run P program w = r at h
      cases r with
      | halt y w1 => simp [Result.andThen] at h
      | ok p w1 =>
        simp only [Result.andThen_ok] at h
        generalize hr2 : Sem.run P (nilAhead _ _ _ _) w1 = r2 at h
        cases r2 with
        | halt y w2 => simp [Result.andThen] at h
        | ok q w2 =>
          simp only [Result.andThen_ok] at h
          split at h
          · rw [Sem.run_bind] at h
            simp [unsupported, Result.andThen] at h
          · simp only [Sem.run_pure, Result.ok.injEq] at h; exact ⟨_, h.1.symm⟩
    · simp only [Sem.run_pure, Result.ok.injEq] at h; exact ⟨_, h.1.symm⟩
  · simp only [Sem.run_pure, Result.ok.injEq] at h; exact ⟨_, h.1.symm⟩

/-- The listing behind n operations from k on. -/
def listUp (listed : Array Bool) : Nat → Nat → Array Bool
  | _, 0 => listed
  | k, n + 1 => listUp (listed.setIfInBounds k true) (k + 1) n
/-- n operations from k on may each be taken first, in turn. -/
def segB (md : Region.Mode) (ops : Array Oper) : Nat → Nat → Array Bool → Bool
  | 0, _, _ => true
  | n + 1, k, listed => (Region.ready md ops listed).contains k && Region.free md ops listed k && segB md ops n (k + 1) (listed.setIfInBounds k true)

variable {ops : Array Oper}

theorem yieldsIf_of_quiet {o : Oper} (hp : pureOp o.op = true) {a : Act} {v : Value} (h : ∀ w, S w → o.quietAt P a S w v) : ∀ w, S w → (execOp a.eval o).run P w = .ok (.value v) w := by
  intro w hw
  have h1 := h w hw
  unfold Oper.quietAt at h1
  cases hr : (execOp a.eval o).run P w with
  | halt x w1 => rw [hr] at h1; exact h1.elim
  | ok n w1 =>
    obtain ⟨u, rfl⟩ := pureOp_value hp hr
    rw [hr] at h1
    obtain ⟨e1, e2⟩ := h1
    rw [e1, e2]

/-- Operations that only read, taken first in the order of the text. -/
theorem wpAnyH_seg (hs : Region.noSelect ops = true) (hQ : ∀ (c : List PanicEntry) (a : Act) (d : Option Tmp) (v : Value) (w : World), Q (.panic c) (a.put d v) w → Q (.panic c) a w) {w : World} (hS : S w) (fuel : Nat) :
    ∀ (seg : List Oper) (k : Nat) (listed : Array Bool) (a : Act), (∀ j, j < seg.length → seg[j]? = ops[k + j]?) → segB md ops seg.length k listed = true → seg.all (fun o => pureOp o.op) = true →
      wpQuiet P ops S (fun a' => wpAnyH P md ops Q S fuel (listUp listed k seg.length) a' w) seg a → wpAnyH P md ops Q S (fuel + seg.length) listed a w
  | [], _, _, _, _, _, _, h => h
  | o :: seg, k, listed, a, hl, hB, hp, h => by
    have h0 : ops[k]? = some o := by simpa using (hl 0 (by simp)).symm
    simp only [List.length_cons, segB, Bool.and_eq_true] at hB
    simp only [List.all_cons, Bool.and_eq_true] at hp
    have rest : ∀ a', wpQuiet P ops S (fun a' => wpAnyH P md ops Q S fuel (listUp (listed.setIfInBounds k true) (k + 1) seg.length) a' w) seg a' → wpAnyH P md ops Q S (fuel + seg.length) (listed.setIfInBounds k true) a' w :=
      fun a' h' => wpAnyH_seg hs hQ hS fuel seg (k + 1) _ a' (fun j hj => by have := hl (j + 1) (by simp; omega); simpa [Nat.add_assoc, Nat.add_comm 1 j] using this) hB.2 hp.2 h'
    show wpAnyH P md ops Q S ((fuel + seg.length) + 1) listed a w
    unfold wpQuiet at h
    by_cases hw : Region.wanted o (yielded ops a.tmps) = true
    · rw [if_pos hw] at h
      obtain ⟨v, h1, h2⟩ := h
      exact wpAnyH_take h0 hs hB.1.2 hB.1.1 (fun c a w => hQ c a _ _ w) (.inl ⟨hw, yieldsIf_of_quiet hp.1 h1⟩) hS (rest _ h2)
    · rw [if_neg hw] at h
      exact wpAnyH_take h0 hs hB.1.2 hB.1.1 (fun c a w => hQ c a _ _ w) (.inr ⟨by simpa using hw, rfl⟩) hS (rest _ h)

/-- The one operation that may come up. -/
theorem wpAnyH_one {e : Nat} {o : Oper} {fuel : Nat} {listed : Array Bool} {a : Act} {w : World} (hr : Region.ready md ops listed = [e]) (ho : ops[e]? = some o) (hg : o.guard = none)
    (h : ∀ K : Act → World → Prop, (∀ a' w', S w' → wpAnyH P md ops Q S fuel (listed.setIfInBounds e true) a' w' → K a' w') → o.wp P a w K Q) : wpAnyH P md ops Q S (fuel + 1) listed a w := by
  refine wpAnyH_all hr (by simp) fun i hi => ?_
  have hi' : i = e := by simpa using hi
  subst hi'
  unfold wpOp
  simp only [ho]
  rw [if_pos (by simp [Region.wanted, hg])]
  exact .inl (h _ fun a' w' h1 h2 => ⟨h1, h2⟩)

/-- Two operations may come up. -/
theorem wpAnyH_two {e1 e2 : Nat} {o1 o2 : Oper} {fuel : Nat} {listed : Array Bool} {a : Act} {w : World} (hr : Region.ready md ops listed = [e1, e2]) (ho1 : ops[e1]? = some o1) (ho2 : ops[e2]? = some o2) (hg1 : o1.guard = none) (hg2 : o2.guard = none)
    (h1 : ∀ K : Act → World → Prop, (∀ a' w', S w' → wpAnyH P md ops Q S fuel (listed.setIfInBounds e1 true) a' w' → K a' w') → o1.wp P a w K Q)
    (h2 : ∀ K : Act → World → Prop, (∀ a' w', S w' → wpAnyH P md ops Q S fuel (listed.setIfInBounds e2 true) a' w' → K a' w') → o2.wp P a w K Q) : wpAnyH P md ops Q S (fuel + 1) listed a w := by
  refine wpAnyH_all hr (by simp) fun i hi => ?_
  simp only [List.mem_cons, List.not_mem_nil, or_false] at hi
  rcases hi with rfl | rfl
  · unfold wpOp
    simp only [ho1]
    rw [if_pos (by simp [Region.wanted, hg1])]
    exact .inl (h1 _ fun a' w' h1 h2 => ⟨h1, h2⟩)
  · unfold wpOp
    simp only [ho2]
    rw [if_pos (by simp [Region.wanted, hg2])]
    exact .inl (h2 _ fun a' w' h1 h2 => ⟨h1, h2⟩)

/-- n operations from number k on, which only read. -/
theorem wpAnyH_seg_at (hs : Region.noSelect ops = true) (hQ : ∀ (c : List PanicEntry) (a : Act) (d : Option Tmp) (v : Value) (w : World), Q (.panic c) (a.put d v) w → Q (.panic c) a w) {w : World} (hS : S w) (fuel k n : Nat) (listed : Array Bool) (a : Act)
    (hk : k + n ≤ ops.size) (hB : segB md ops n k listed = true) (hp : ((ops.toList.drop k).take n).all (fun o => pureOp o.op) = true)
    (h : wpQuiet P ops S (fun a' => wpAnyH P md ops Q S fuel (listUp listed k n) a' w) ((ops.toList.drop k).take n) a) : wpAnyH P md ops Q S (fuel + n) listed a w := by
  have hl : ((ops.toList.drop k).take n).length = n := by rw [List.length_take, List.length_drop, Array.length_toList]; omega
  have := wpAnyH_seg (P := P) (Q := Q) (md := md) (S := S) hs hQ hS fuel ((ops.toList.drop k).take n) k listed a (by
    intro j hj
    rw [hl] at hj
    rw [List.getElem?_take_of_lt hj, List.getElem?_drop, Array.getElem?_toList]) (by rw [hl]; exact hB) hp (by rw [hl]; exact h)
  rw [hl] at this
  exact this

/-- The operation with nothing to do. -/
def nopOf (o : Oper) : Oper := { o with op := .move (.const (.bool false)) }
/-- The post of the region without its last operation: the last operation is carried out behind it. -/
def LastQ (P : Program) (ops : Array Oper) (n : Nat) (Q : Exit → Act → World → Prop) : Exit → Act → World → Prop
  | .normal, a, w => wpOp P ops Q n (Q .normal) a w
  | e, a, w => Q e a w
/-- The last operation waits, through others, for each other one; each operation waits for earlier ones alone. -/
def lastB (md : Region.Mode) (ops : Array Oper) (n : Nat) : Bool :=
  (Region.sinkB md ops n && Region.chainB md ops n) && (List.range ops.size).all (fun j => match ops[j]? with | none => true | some o => o.after.all fun e => !Region.binds md e || decide (e.on < j))

theorem oper_wp_lastQ {o : Oper} {a : Act} {w : World} {n : Nat} {K K' : Act → World → Prop} (hK : ∀ a w, K a w → K' a w) (h : o.wp P a w K (LastQ P ops n Q)) : o.wp P a w K' Q := by
  unfold Oper.wp at *
  generalize (execOp a.eval o).run P w = r at *
  cases r with
  | halt x w1 => cases x <;> first | exact h | exact h.elim
  | ok x w1 =>
    cases x <;> first
      | exact hK _ _ h
      | exact h.elim
      | skip
    · refine Calls.mono h fun e w2 he => ?_
      cases e with
      | returned v => exact hK _ _ he
      | panicked c => exact he
      | outgrown => exact he
    · exact Rows.mono h fun v w2 he => hK _ _ he

theorem nop_wp {o : Oper} (hd : o.dst = none) {a : Act} {w : World} {K : Act → World → Prop} {Q' : Exit → Act → World → Prop} (h : (nopOf o).wp P a w K Q' ∨ ((nopOf o).asks P a w ∧ LetsOut Q')) : K a w := by
  rcases h with h | h
  · have : (nopOf o).wp P a w K Q' = K (a.put (nopOf o).dst (.bool false)) w := rfl
    rw [this] at h
    simpa [nopOf, hd, Act.put] using h
  · have h1 := h.1.1
    have h2 : noRoomEvent ∈ (#[] : Array Event) := h1
    exact absurd h2 (by simp)

theorem wpAny_last {l : List Oper} {o : Oper} (hd : o.dst = none) (hg : o.guard = none) (hB : lastB md (l ++ [o]).toArray l.length = true) : ∀ (fuel : Nat) (listed : Array Bool) (a : Act) (w : World), HeadInv md (l ++ [o]).toArray l.length listed →
    wpAny P md (l ++ [nopOf o]).toArray (LastQ P (l ++ [o]).toArray l.length Q) fuel listed a w → wpAny P md (l ++ [o]).toArray Q fuel listed a w := by
  simp only [lastB, Bool.and_eq_true] at hB
  have hB' := hB.2
  simp only [List.all_eq_true, List.mem_range] at hB'
  replace hB := And.intro hB.1 hB'
  clear hB'
  obtain ⟨⟨hB1, hB3⟩, hB2⟩ := hB
  have hlt : ∀ j, j < l.length → (l ++ [nopOf o]).toArray[j]? = (l ++ [o]).toArray[j]? := by
    intro j hj
    simp [List.getElem?_append_left hj]
  have hlast : (l ++ [o]).toArray[l.length]? = some o := by simp
  have hlast2 : (l ++ [nopOf o]).toArray[l.length]? = some (nopOf o) := by simp
  have hout : ∀ j, l.length < j → (l ++ [o]).toArray[j]? = none ∧ (l ++ [nopOf o]).toArray[j]? = none := by
    intro j hj
    constructor <;> (simp; omega)
  have hready : ∀ listed j, j ∈ Region.ready md (l ++ [nopOf o]).toArray listed ↔ j ∈ Region.ready md (l ++ [o]).toArray listed := by
    intro listed j
    rw [mem_ready, mem_ready]
    rcases Nat.lt_trichotomy j l.length with h | h | h
    · rw [hlt j h]
    · subst h
      rw [hlast, hlast2]
      simp [nopOf]
    · rw [(hout j h).1, (hout j h).2]
  have hy : ∀ tmps, yielded (l ++ [nopOf o]).toArray tmps = yielded (l ++ [o]).toArray tmps := by
    intro tmps
    funext j
    unfold yielded
    rcases Nat.lt_trichotomy j l.length with h | h | h
    · rw [hlt j h]
    · subst h
      rw [hlast, hlast2]
      rfl
    · rw [(hout j h).1, (hout j h).2]
  -- where the last is not listed something may come up
  have hsome : ∀ listed : Array Bool, listed.size = l.length + 1 → listed.getD l.length true = false → Region.ready md (l ++ [o]).toArray listed ≠ [] := by
    intro listed hsz hun
    have key : ∀ k j, j ≤ k → j ≤ l.length → listed.getD j true = false → ∃ i, i ∈ Region.ready md (l ++ [o]).toArray listed := by
      intro k
      induction k with
      | zero =>
        intro j hj hjl hu
        have hj0 : j = 0 := by omega
        subst hj0
        obtain ⟨oj, hoj⟩ : ∃ oj, (l ++ [o]).toArray[0]? = some oj := ⟨_, Array.getElem?_eq_getElem (by simp)⟩
        refine ⟨0, mem_ready.2 ⟨hu, oj, hoj, fun e he hb => ?_⟩⟩
        have := hB2 0 (by simp)
        simp only [hoj, Array.all_eq_true_iff_forall_mem] at this
        have h2 := this e he
        simp [hb] at h2
      | succ k ih =>
        intro j hj hjl hu
        by_cases hex : ∃ i, i < j ∧ listed.getD i true = false
        · obtain ⟨i, hi, hu'⟩ := hex
          exact ih i (by omega) (by omega) hu'
        · obtain ⟨oj, hoj⟩ : ∃ oj, (l ++ [o]).toArray[j]? = some oj := ⟨_, Array.getElem?_eq_getElem (by simp; omega)⟩
          refine ⟨j, mem_ready.2 ⟨hu, oj, hoj, fun e he hb => ?_⟩⟩
          have := hB2 j (by simp; omega)
          simp only [hoj, Array.all_eq_true_iff_forall_mem] at this
          have h2 := this e he
          simp only [hb, Bool.not_true, Bool.false_or, decide_eq_true_eq] at h2
          have h3 : ¬ listed.getD e.on true = false := fun h => hex ⟨e.on, h2, h⟩
          have h4 : e.on < listed.size := by omega
          simp only [Array.getD, h4, dif_pos] at h3 ⊢
          simpa using h3
    intro e
    obtain ⟨i, hi⟩ := key l.length l.length (Nat.le_refl _) (Nat.le_refl _) hun
    rw [e] at hi
    cases hi
  intro fuel
  induction fuel with
  | zero =>
    intro listed a w inv h
    have hsz : listed.size = l.length + 1 := by rw [inv.size]; simp
    have hun := inv.tail l.length (Nat.le_refl _) (by simp)
    exact absurd (List.eq_nil_iff_forall_not_mem.2 fun i hi => by rw [← hready, h.1] at hi; cases hi) (hsome listed hsz hun)
  | succ fuel ih =>
    intro listed a w inv h
    have hsz : listed.size = l.length + 1 := by rw [inv.size]; simp
    have hun := inv.tail l.length (Nat.le_refl _) (by simp)
    refine ⟨fun h0 => absurd h0 (hsome listed hsz hun), fun i hi => ?_⟩
    have h2 := h.2 i ((hready listed i).2 hi)
    have hil : i ≤ l.length := by
      rcases Nat.lt_or_ge l.length i with h3 | h3
      · obtain ⟨_, oi, hoi, _⟩ := mem_ready.1 hi
        rw [(hout i h3).1] at hoi; cases hoi
      · exact h3
    by_cases hin : i = l.length
    · subst hin
      obtain ⟨_, oi, hoi, hall⟩ := mem_ready.1 hi
      have hoi' : oi = o := Option.some.inj (hoi.symm.trans hlast)
      subst hoi'
      -- all others are listed
      have hl : ∀ j, j < l.length → listed.getD j false = true := by
        intro j hj
        cases hlj : listed.getD j false with
        | true => rfl
        | false => exact absurd hi (tail_waits hB1 hB3 (by simp) inv _ j rfl hj (getD_in (by omega) hlj) l.length (Nat.le_refl _))
      have hdone : ∀ ops' : Array Oper, ops'.size = l.length + 1 → Region.ready md ops' (listed.setIfInBounds l.length true) = [] := by
        intro ops' hs'
        refine List.eq_nil_iff_forall_not_mem.2 fun j hj => ?_
        obtain ⟨hu, oj, hoj, _⟩ := mem_ready.1 hj
        have hjs : j < l.length + 1 := by rw [← hs']; exact (Array.getElem?_eq_some_iff.1 hoj).1
        by_cases hjl : j = l.length
        · subst hjl
          have : l.length < (listed.setIfInBounds l.length true).size := by rw [Array.size_setIfInBounds]; omega
          simp [Array.getD, hsz] at hu
        · have h3 := hl j (by omega)
          rw [getD_set_ne true (Ne.symm hjl)] at hu
          have h4 : j < listed.size := by omega
          simp only [Array.getD, h4, dif_pos] at hu h3
          rw [h3] at hu; cases hu
      unfold wpOp at h2
      simp only [hlast2] at h2
      rw [if_pos (by simp [Region.wanted, nopOf, hg])] at h2
      have h3 := nop_wp hd h2
      have h4 : LastQ P (l ++ [oi]).toArray l.length Q .normal a w := by
        cases fuel with
        | zero => exact h3.2
        | succ f => exact h3.1 (hdone _ (by simp))
      refine wpOp_mono (fun a' w' hq => ?_) h4
      have hd2 := hdone (l ++ [oi]).toArray (by simp)
      cases fuel with
      | zero => exact ⟨hd2, hq⟩
      | succ f => exact ⟨fun _ => hq, by rw [hd2]; simp⟩
    · have hlt' : i < l.length := by omega
      have hK : ∀ a' w', wpAny P md (l ++ [nopOf o]).toArray (LastQ P (l ++ [o]).toArray l.length Q) fuel (listed.setIfInBounds i true) a' w' → wpAny P md (l ++ [o]).toArray Q fuel (listed.setIfInBounds i true) a' w' :=
        fun a' w' h' => ih _ a' w' (inv.set hi hlt') h'
      unfold wpOp at h2 ⊢
      rw [hlt i hlt'] at h2
      cases ho : (l ++ [o]).toArray[i]? with
      | none => rw [ho] at h2; exact hK _ _ h2
      | some oi =>
        rw [ho] at h2
        simp only [hy] at h2 ⊢
        by_cases hw : Region.wanted oi (yielded (l ++ [o]).toArray a.tmps) = true
        · rw [if_pos hw] at h2 ⊢
          rcases h2 with h2 | h2
          · exact .inl (oper_wp_lastQ hK h2)
          · exact .inr h2
        · rw [if_neg hw] at h2 ⊢
          exact hK _ _ h2

/-- **A region whose last operation writes what others read.** -/
theorem wp_region_last {id : Nat} {a : Act} {w : World} {l : List Oper} {o : Oper} (hm : P.follows .mixedOrders = true) (hd : o.dst = none) (hg : o.guard = none) (hB : lastB .any (l ++ [o]).toArray l.length = true)
    (h : wpAnyH P .any (l ++ [nopOf o]).toArray (LastQ P (l ++ [o]).toArray l.length Q) S (l.length + 1) (Array.replicate (l.length + 1) false) a w.drew) : (Code.region id (l ++ [o]).toArray true).wp P Q a w := by
  refine wp_region_any hm ?_
  have hs : (l ++ [o]).toArray.size = l.length + 1 := by simp
  rw [hs]
  have inv0 : HeadInv .any (l ++ [o]).toArray l.length (Array.replicate (l.length + 1) false) :=
    ⟨by simp, fun j oj _ h => (by rw [getD_replicate_false] at h; cases h), fun t _ ht => getD_in (by simpa using ht) (getD_replicate_false _ _)⟩
  exact wpAny_last hd hg hB _ _ _ _ inv0 (wpAny_of_held _ _ _ _ h)

/-- The end: all have come up but the last, which has nothing to do; then the last is carried out. -/
theorem wpAnyH_fin {l : List Oper} {o : Oper} (hd : o.dst = none) (hg : o.guard = none) {listed : Array Bool} {a : Act} {w : World} (hr : Region.ready md (l ++ [nopOf o]).toArray listed = [l.length])
    (hr2 : Region.ready md (l ++ [nopOf o]).toArray (listed.setIfInBounds l.length true) = []) (hS : S w) (h : o.wp P a w (Q .normal) Q) :
    wpAnyH P md (l ++ [nopOf o]).toArray (LastQ P (l ++ [o]).toArray l.length Q) S 1 listed a w := by
  refine wpAnyH_one (e := l.length) (o := nopOf o) hr (by simp) (by simp [nopOf, hg]) fun K hK => ?_
  have : (nopOf o).wp P a w K (LastQ P (l ++ [o]).toArray l.length Q) = K (a.put (nopOf o).dst (.bool false)) w := rfl
  rw [this]
  have he : a.put (nopOf o).dst (.bool false) = a := by simp [nopOf, hd, Act.put]
  rw [he]
  refine hK a w hS ⟨hr2, ?_⟩
  show wpOp P (l ++ [o]).toArray Q l.length (Q .normal) a w
  unfold wpOp
  have : (l ++ [o]).toArray[l.length]? = some o := by simp
  simp only [this]
  rw [if_pos (by simp [Region.wanted, hg])]
  exact .inl h

/-- The same over a literal region: the first k operations only read. -/
theorem wp_region_last_lit {id : Nat} {a : Act} {w : World} {L : Array Oper} (n k fuel : Nat) (S : World → Prop) {o : Oper} (hm : P.follows .mixedOrders = true) (hsz : L.size = n + 1) (h0 : L.toList.drop n = [o]) (hd : o.dst = none) (hg : o.guard = none) (hB : lastB .any L n = true)
    (hf : n + 1 = fuel + k) (hk : k ≤ n) (hs : Region.noSelect (L.toList.take n ++ [nopOf o]).toArray = true) (hsg : segB .any (L.toList.take n ++ [nopOf o]).toArray k 0 (Array.replicate (n + 1) false) = true) (hp : (L.toList.take k).all (fun o => pureOp o.op) = true)
    (hQ : ∀ (c : List PanicEntry) (a : Act) (d : Option Tmp) (v : Value) (w : World), Q (.panic c) (a.put d v) w → Q (.panic c) a w) (hS : S w.drew)
    (h : wpQuiet P (L.toList.take n ++ [nopOf o]).toArray S (fun a' => wpAnyH P .any (L.toList.take n ++ [nopOf o]).toArray (LastQ P L n Q) S fuel (listUp (Array.replicate (n + 1) false) 0 k) a' w.drew) (L.toList.take k) a) : (Code.region id L true).wp P Q a w := by
  have hsz' : L.toList.length = n + 1 := by simpa using hsz
  have ho' : L.toList[n]? = some o := by rw [← List.head?_drop, h0]; rfl
  have hL : L = (L.toList.take n ++ [o]).toArray := by
    apply Array.ext'
    show L.toList = L.toList.take n ++ [o]
    have h1 := List.take_append_drop n L.toList
    rw [h0] at h1
    exact h1.symm
  have hln : (L.toList.take n).length = n := by rw [List.length_take]; omega
  have hlk : (L.toList.take k).length = k := by rw [List.length_take]; omega
  have key : (Code.region id (L.toList.take n ++ [o]).toArray true).wp P Q a w := by
    refine wp_region_last (S := S) hm hd hg (by rw [hln, ← hL]; exact hB) ?_
    rw [← hL, hln, hf]
    have hseg := wpAnyH_seg (P := P) (Q := LastQ P L n Q) (md := .any) (S := S) hs (by intro c a d v w h; exact hQ c a d v w h) hS fuel (L.toList.take k) 0 (Array.replicate (n + 1) false) a (by
      intro j hj
      rw [hlk] at hj
      rw [Nat.zero_add, List.getElem?_take_of_lt hj, List.getElem?_toArray, List.getElem?_append_left (by omega), List.getElem?_take_of_lt (by omega)]) (by rw [hlk]; exact hsg) hp (by rw [hlk]; exact h)
    rw [hlk] at hseg
    rw [← hf]
    rw [← hf] at hseg
    exact hseg
  rw [← hL] at key
  exact key

theorem wpAnyH_fin_lit {ops ops' : Array Oper} {n : Nat} {o : Oper} (ho : ops[n]? = some o) (ho' : ops'[n]? = some (nopOf o)) (hd : o.dst = none) (hg : o.guard = none) {listed : Array Bool} {a : Act} {w : World} (hr : Region.ready md ops' listed = [n])
    (hr2 : Region.ready md ops' (listed.setIfInBounds n true) = []) (hS : S w) (h : o.wp P a w (Q .normal) Q) :
    wpAnyH P md ops' (LastQ P ops n Q) S 1 listed a w := by
  refine wpAnyH_one (e := n) (o := nopOf o) hr ho' (by simp [nopOf, hg]) fun K hK => ?_
  have : (nopOf o).wp P a w K (LastQ P ops n Q) = K (a.put (nopOf o).dst (.bool false)) w := rfl
  rw [this]
  have he : a.put (nopOf o).dst (.bool false) = a := by simp [nopOf, hd, Act.put]
  rw [he]
  refine hK a w hS ⟨hr2, ?_⟩
  show wpOp P ops Q n (Q .normal) a w
  unfold wpOp
  simp only [ho]
  rw [if_pos (by simp [Region.wanted, hg])]
  exact .inl h
end

/-- The worlds with the cells of these places as they lie in w. -/
def Kept (w : World) (l : List Addr) := { W : World // ∀ p ∈ l, W.cell? p = w.cell? p ∧ W.frozen? p = w.frozen? p }
/-- .. as a condition on a world. -/
abbrev KeptAt (w : World) (l : List Addr) : World → Prop := fun W => ∃ x : Kept w l, W = x.1
instance (w : World) (l : List Addr) : Nonempty (Kept w l) := ⟨⟨w, fun _ _ => ⟨rfl, rfl⟩⟩⟩
theorem Kept.cell {w : World} {l : List Addr} (x : Kept w l) {p : Addr} {v : Value} (hp : p ∈ l) (h : w.cell? p = some v) : x.1.cell? p = some v := (x.2 p hp).1.trans h
theorem Kept.frozen {w : World} {l : List Addr} (x : Kept w l) {p : Addr} {b : Bool} (hp : p ∈ l) (h : w.frozen? p = b) : x.1.frozen? p = b := (x.2 p hp).2.trans h
theorem KeptAt.refl (w : World) (l : List Addr) : KeptAt w l w := ⟨⟨w, fun _ _ => ⟨rfl, rfl⟩⟩, rfl⟩
theorem KeptAt.drew {w W : World} {l : List Addr} (h : KeptAt w l W) : KeptAt w l W.drew := by
  obtain ⟨x, rfl⟩ := h
  exact ⟨⟨x.1.drew, x.2⟩, rfl⟩
theorem KeptAt.below {w W W' : World} {l : List Addr} (h : KeptAt w l W) (hl : ∀ p ∈ l, p.block < W.heap.size) (hb : Below W.heap.size W W') : KeptAt w l W' := by
  obtain ⟨x, rfl⟩ := h
  exact ⟨⟨W', fun p hp => ⟨(hb.cell (hl p hp)).trans (x.2 p hp).1, (hb.frozen (hl p hp)).trans (x.2 p hp).2⟩⟩, rfl⟩
theorem KeptAt.grown {w W W' : World} {l : List Addr} {own : Option Nat} (h : KeptAt w l W) (hl : ∀ p ∈ l, p.block < W.heap.size ∧ some p.block ≠ own) (hb : W.grownBy W' own) : KeptAt w l W' := by
  obtain ⟨x, rfl⟩ := h
  exact ⟨⟨W', fun p hp => ⟨(hb.cell_far p (hl p hp).1 (hl p hp).2).trans (x.2 p hp).1, (hb.frozen_far p (hl p hp).1 (hl p hp).2).trans (x.2 p hp).2⟩⟩, rfl⟩

theorem anyH_named {P : Program} {md : Region.Mode} {ops : Array Oper} {Q : Exit → Act → World → Prop} {S : World → Prop} {fuel : Nat} {listed : Array Bool} {a : Act} {w : World} (h : ∀ V, V = w → wpAnyH P md ops Q S fuel listed a V) : wpAnyH P md ops Q S fuel listed a w := h w rfl
end Go.Proofs.YtchnhjffpldpiaaDoor
