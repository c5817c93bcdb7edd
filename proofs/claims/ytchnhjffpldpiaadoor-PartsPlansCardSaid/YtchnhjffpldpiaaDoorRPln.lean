/- The reference's plans: Changes, CheckPlan; append onto nil of a whole slice of integers. -/
import Derived.Test.YtchnhjffpldpiaaDoorAppP
import Derived.Test.YtchnhjffpldpiaaDoorAppN
import Derived.Test.YtchnhjffpldpiaaDoorRefC1
import Derived.Test.YtchnhjffpldpiaaDoorPln
namespace Go.Proofs.YtchnhjffpldpiaaDoor
open Go Go.RowKit

/-- append onto nil of a whole slice of integers, empty or not. -/
theorem run_append_nilJ {P : Program} (w : World) (t ty E : TypeId) (i : TypeInfo) (ht : P.underlying t = some (.slice E)) (hi : P.info? E = some i) (hz : i.zero = some (.int .i64 0)) (hs : i.size = 1) (hb : i.bytes = 8)
    {B : Nat} {ao : Option Addr} {m : Nat} {xs : List Int} (hR : Rd encInt 1 w B ao m xs) (c : Nat) (hl : m ≤ 1000000) :
    ∃ ao' cap w', (Builtin.append_ #[t, t] ty #[.slice none 0 0, .slice ao m c]).run P w = .ok (.slice ao' m cap) w' ∧ OwnI E w' w.heap.size (.slice ao' m cap) xs ∧ w.grownBy w' none := by
  rcases Nat.eq_zero_or_pos m with h0 | h0
  · subst h0
    have : xs = [] := List.eq_nil_of_length_eq_zero hR.len.symm
    subst this
    have hr := run_append_nothing (P := P) w t t ty E i ht hi none 0 0 (Nat.le_refl _) (.slice ao 0 c) ⟨.inl ⟨E, ht⟩, fun _ => rfl, by cases ao <;> simp [Builtin.firstCells, loadCells, go_sem], by cases ao <;> simp [Builtin.firstCells, loadCells, go_sem], by simp, fun u hu => by cases hu⟩
    exact ⟨none, 0, w, hr, OwnI.nil, ⟨rfl, rfl, rfl, Nat.le_refl _, fun _ _ _ => rfl⟩⟩
  · obtain ⟨b, off, h1, h2⟩ := hR.ex
    obtain ⟨rfl, _⟩ := h1 h0
    obtain ⟨g, o, cap, w', hr, h3, h4, _⟩ := run_append_nilI (P := P) (xs := xs) w t ty i ht hi hz hs hb (Nat.le_refl _) b off m c hR.len h0 (fun j hj => by have := h2 j hj 0 _ rfl; rw [Nat.mul_one, Nat.add_zero] at this; exact this) hl
    exact ⟨_, cap, w', hr, h3, h4⟩
theorem wpList_append_nilJ {P : Program} (w : World) {ops : Array Oper} {rest : List Oper} {o : Oper} {a : Act} {Q : Exit → Act → World → Prop} (hgd : o.guard = none) (s x : Operand) (t : TypeId)
    (ho : o.op = .call { callee := .builtin .append, args := #[s, x], argTypes := #[t, t] }) (E : TypeId) (i : TypeInfo) (ht : P.underlying t = some (.slice E)) (hi : P.info? E = some i) (hz : i.zero = some (.int .i64 0)) (hs : i.size = 1) (hb : i.bytes = 8)
    (hv : a.eval s = .slice none 0 0) {B : Nat} {ao : Option Addr} {m c : Nat} {xs : List Int} (hx' : a.eval x = .slice ao m c) (hR : Rd encInt 1 w B ao m xs) (hl : m ≤ 1000000)
    (hk : ∀ ao' cap w', OwnI E w' w.heap.size (.slice ao' m cap) xs → w.grownBy w' none → wpList P ops Q rest (a.put o.dst (.slice ao' m cap)) w') :
    wpList P ops Q (o :: rest) a w := by
  refine wpList_plain hgd fun K hK => ?_
  obtain ⟨ao', cap, w', hr, h2, h3⟩ := run_append_nilJ (P := P) w t o.type E i ht hi hz hs hb hR c hl
  unfold Oper.wp execOp
  simp only [ho, resolve, invoke, builtin, Sem.run_bind, Sem.run_pure, Result.andThen_ok, List.map_toArray, List.map_cons, List.map_nil, hv, hx', hr]
  exact hK _ _ (hk ao' cap w' h2 h3)

variable {xs ys : List Int} {a a2 : Option Addr} {n c n2 c2 : Nat} {w : World} {B : Nat}

theorem rd_one (h : Rd encInt 1 w B a n xs) (j : Nat) (hj : j < n) : ∃ b off, a = some ⟨b, off, none⟩ ∧ b < B ∧ w.cell? ⟨b, off + j, none⟩ = some (.int .i64 xs[j]!) := by
  obtain ⟨b, off, h1, h2⟩ := h.ex
  obtain ⟨ha, hb⟩ := h1 (by omega)
  have := h2 j hj 0 _ rfl
  rw [Nat.mul_one, Nat.add_zero] at this
  exact ⟨b, off, ha, hb, this⟩

set_option maxRecDepth 100000 in
set_option maxHeartbeats 1000000 in
theorem changes_any (hB : B ≤ w.heap.size) (hS : Rd encInt 1 w B a n xs) (hn : n ≤ 1000000) (m : Int) (hm : chg xs = m) :
    Calls Tryd.prog 49 #[.slice a n c] w fun e w' => e = .returned (.int .i64 m) ∧ Below w.heap.size w w' := by
  have ST : Hid (∀ W, Below w.heap.size w W → Rd encInt 1 W B a n xs) := fun W hW => hS.below (hW.mono hB)
  unfold chg at hm
  rw [← hS.len] at hm
  clear hS hB
  by_cases h0 : n = 0
  · subst h0
    obtain rfl : m = 0 := hm.symm
    clear hm
    go_enter Tryd.func49, Tryd.ntmps49
    go_wp2
    go_loopg [3, 4] 0 (fun gg s3 s4 wr => s3 = .int .i64 0 ∧ s4 = .int .i64 1 ∧ Aside (Below w.heap.size w wr))
    case atStart => exact ⟨rfl, rfl, Below.refl _ _⟩
    case round =>
      obtain ⟨rfl, rfl, BW⟩ := hrel
      go_wp2
      go_ret
      exact ⟨rfl, BW.out⟩
  · have HM := Lib.hid hm
    clear hm
    go_enter Tryd.func49, Tryd.ntmps49
    go_wp2
    go_loopg [3, 4] n (fun gg s3 s4 wr => ∃ k : Nat, k + 1 ≤ n ∧ n - (k + 1) ≤ gg ∧ s3 = .int .i64 (chgUp' xs (k + 1)) ∧ s4 = .int .i64 ((k : Int) + 1) ∧ Aside (Below w.heap.size w wr))
    case atStart => exact ⟨0, by omega, by omega, by rw [chgUp'_succ, chgUp'_zero]; simp, rfl, Below.refl _ _⟩
    case round =>
      obtain ⟨k, hk, hg, rfl, rfl, BW⟩ := hrel
      by_cases hlt : k + 1 < n
      · have hltz : (k : Int) + 1 < (n : Int) := by omega
        have hk0 : (0 : Int) ≤ (k : Int) + 1 := by omega
        obtain ⟨b, off, rfl, hb, x1⟩ := rd_one (ST.out _ BW.out) (k + 1) hlt
        obtain ⟨b', off', e, _, x2⟩ := rd_one (ST.out _ BW.out) k (by omega)
        cases e
        have MS := Lib.hid (chgUp'_succ xs (k + 1))
        obtain ⟨m0, m1⟩ := chgUp'_bd xs (k + 1)
        rw [Nat.add_sub_cancel] at MS
        generalize chgUp' xs (k + 1) = M at MS m0 m1 ⊢
        generalize xs[k + 1]! = y1 at x1 MS
        generalize xs[k]! = y0 at x2 MS
        have hM : M ≤ 1000001 := by omega
        clear m1
        by_cases he : y1 = y0
        · subst he
          go_wp2
          go_quiet (fail)
          refine world_gen (w := wr) (Q := fun W => Exit.then _ _ _ _ W) (fun W bW => ?_) _
          have HF := Lib.hid (BW.out.trans (bW.mono BW.out.size))
          clear bW x1 x2
          go_wp2
          go_roundg (n - (k + 1 + 1))
          case measure => omega
          case rel => exact ⟨k + 1, by omega, by omega, by rw [MS.out]; simp, by go_num, HF.out⟩
        · have hf : (y1 == y0) = false := by simpa using he
          have HE := Lib.hid he
          clear he
          go_wp2
          go_quiet (fail)
          refine world_gen (w := wr) (Q := fun W => Exit.then _ _ _ _ W) (fun W bW => ?_) _
          have HF := Lib.hid (BW.out.trans (bW.mono BW.out.size))
          clear bW x1 x2
          go_wp2
          go_roundg (n - (k + 1 + 1))
          case measure => omega
          case rel => exact ⟨k + 1, by omega, by omega, by rw [MS.out]; simp [HE.out], by go_num, HF.out⟩
      · have hltz : ¬ (k : Int) + 1 < (n : Int) := by omega
        obtain rfl : n = k + 1 := by omega
        rw [HM.out]
        go_wp2
        go_ret
        exact ⟨rfl, BW.out⟩
end Go.Proofs.YtchnhjffpldpiaaDoor
