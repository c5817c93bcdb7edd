/- slices.Backward on a slice of pairs, as an iterator whose rounds may stop it. -/
import Derived.Test.YtchnhjffpldpiaaDoorMF
import Derived.Test.YtchnhjffpldpiaaDoorDamL
namespace Go.Proofs.YtchnhjffpldpiaaDoor
open Go Go.RowKit Go.Shelf
attribute [local go_sem] Oper.semAt_some

/-- What a round of the inner loop keeps: what lay below n₀, and the iterator's box. -/
def KpB (n₀ bs : Nat) (T : TypeId) (v : Value) (A B : World) : Prop := Below n₀ A B ∧ (Boxed A bs T v → Boxed B bs T v)
theorem KpB.t {n₀ bs : Nat} {T : TypeId} {v : Value} {A B C : World} (h : KpB n₀ bs T v A B) (k : KpB n₀ bs T v B C) : KpB n₀ bs T v A C := ⟨h.1.trans k.1, fun x => k.2 (h.2 x)⟩
theorem KpB.b {n₀ bs : Nat} {T : TypeId} {v : Value} {w : World} (hn : n₀ ≤ w.heap.size) (W : World) (l : Nat) (o o' : Obj) (hl : w.heap.size ≤ l) (h : W.heap[l]? = some o) (hc : o.isCells = false) (hw : o.isWalk = false) : KpB n₀ bs T v W (W.putObj l o') :=
  ⟨belowK_b hn W l o o' hl h hc hw, fun x => x.kept (grownBy_putObj' W l o') (fun e => by cases e; rw [show W.heap[bs]? = _ from x] at h; cases h; cases hc)⟩
theorem KpB.refl {n₀ bs : Nat} {T : TypeId} {v : Value} (A : World) : KpB n₀ bs T v A A := ⟨Below.refl _ _, id⟩

/-- The k-th pair from behind, with its index. -/
def encBk (steps : List (Int × Int)) (n : Nat) (k : { k : Nat // k < n }) : Array Value :=
  #[.int .i64 ((n - 1 - k.val : Nat) : Int), .agg #[.int .i64 (steps[n - 1 - k.val]!).1, .int .i64 (steps[n - 1 - k.val]!).2]]

set_option maxHeartbeats 400000 in
theorem back_any (v : Value) (w : World) (a : Option Addr) (n c : Nat) (hv : v = .slice a n c) :
    Calls Tryd.prog 87 #[v] w fun e w' => e = .returned (.func (.func 122) #[] #[.pointer (some ⟨w.heap.size, 0, none⟩)]) ∧ w' = w.alloc (.cells #[.slice a n c] 26) := by
  subst hv
  go_enter Tryd.func87, Tryd.ntmps87
  go_wp2
  go_ret
  exact ⟨rfl, rfl⟩

theorem map_val_snoc {n k : Nat} {pre : List { k : Nat // k < n }} (h : pre.map Subtype.val = List.range k) (hk : k < n) : (pre ++ [(⟨k, hk⟩ : { k : Nat // k < n })]).map Subtype.val = List.range (k + 1) := by
  rw [List.map_append, h, List.range_succ]; rfl
theorem range_pre {n k : Nat} (h : k ≤ n) : List.range k <+: List.range n := by
  obtain ⟨d, rfl⟩ := Nat.exists_eq_add_of_le h
  rw [List.range_add]
  exact List.prefix_append _ _

set_option maxRecDepth 100000 in
set_option maxHeartbeats 4000000 in
theorem back1_stops (n : Nat) (hn : 1 ≤ n) (steps : List (Int × Int)) (a : Option Addr) (n2 c2 : Nat) (bs n₀ B : Nat) (w : World) (hB : B ≤ n₀) (hn₀ : n₀ ≤ w.heap.size) (hS : Rd encPair 2 w B a n2 steps) (hbs : Boxed w bs 26 (.slice a n2 c2)) (l0 : Nat) :
    SeqStopsK (Fence.wide.inRound l0) n Tryd.prog 122 #[.pointer (some ⟨bs, 0, none⟩)] (encBk steps n2) (KpB n₀ bs 26 (.slice a n2 c2)) (fun ys => ys.map Subtype.val = List.range n2) (fun pre => pre.map Subtype.val <+: List.range n2) n2 w := by
  refine SeqStopsK.inRound l0 ?_
  intro l J Jx W hW _ _ hY h0
  have hbW : Boxed W bs 26 (.slice a n2 c2) := (hW.block _ hbs.lt).trans hbs
  have HS := Lib.hid (hS.below (hW.mono (Nat.le_trans hB hn₀)))
  have HY := Lib.hid hY
  have H0 := Lib.hid h0
  have HBW := Lib.hid hbW
  have HBN := Lib.hid hB
  have hbig := hS.big
  clear hY h0 hS hW hB hn₀ hbs
  have hcb := hbW.cell
  clear hbW
  refine callsIn_of_wp Tryd.func122 rfl trivial ?_ rfl
  simp only [Tryd.ntmps122, List.size_toArray, List.length_cons, List.length_nil, Nat.reduceAdd, Nat.reduceSub, Array.replicate_succ, Array.replicate_zero, List.push_toArray, List.append_toArray, List.nil_append, List.cons_append]
  gi_wp2
  gi_loopg [3] n2 (fun gg s3 wr => ∃ k : Nat, k ≤ n2 ∧ n2 - k ≤ gg ∧ s3 = .int .i64 ((n2 : Int) - 1 - k) ∧ Aside (∃ pre : List { k : Nat // k < n2 }, pre.map Subtype.val = List.range k ∧ J pre wr) ∧ Aside (Boxed wr bs 26 (.slice a n2 c2)) ∧ Aside (Below n₀ W wr))
  case atStart => exact ⟨0, Nat.zero_le _, by omega, by simp, ⟨[], rfl, H0.out⟩, HBW.out, Below.refl _ _⟩
  case round =>
    obtain ⟨k, hk, hg, rfl, PJ, BX, BW⟩ := hrel
    by_cases hlt : k < n2
    · obtain ⟨m, hm⟩ : ∃ m, n2 = k + 1 + m := ⟨n2 - (k + 1), by omega⟩
      have e1 : (n2 : Int) - 1 - k = (m : Int) := by omega
      obtain ⟨pre, hp, hJ⟩ := PJ.out
      obtain ⟨b, off, rfl, hb, x1, x2⟩ := rd_pair (HS.out.below (BW.out.mono HBN.out)) m (by omega)
      obtain ⟨fn, tmps, assign, body, hy, hR⟩ := HY.out pre ⟨k, hlt⟩ wr hJ (by have := congrArg List.length hp; simp at this; omega)
      have e2 : n2 - 1 - k = m := by omega
      simp only [encBk, e2] at hy
      obtain ⟨st, hst⟩ : ∃ x, steps[m]! = x := ⟨_, rfl⟩
      rw [hst] at hy x1 x2
      obtain ⟨sa, sb⟩ := st
      simp only at hy x1 x2
      clear hst
      have HP := Lib.hid (map_val_snoc hp hlt)
      have HM := Lib.hid hm
      have E1 := Lib.hid e1
      have cb := BX.out.cell
      have hm2 : m < n2 := by omega
      rw [e1]
      clear hp hJ e1 e2 hm
      gi_wp2
      refine hR.mono ?_
      rintro e W3 (⟨rfl, hJ3, hk3⟩ | ⟨rfl, hJx3⟩)
      · have HK3 := Lib.hid hk3
        have HJ3 := Lib.hid hJ3
        clear hk3 hJ3
        gi_wp2
        gi_roundg (n2 - (k + 1))
        case measure => omega
        case rel => exact ⟨k + 1, by omega, by omega, by have := E1.out; congr 1; omega, ⟨_, HP.out, HJ3.out⟩, HK3.out.2 BX.out, BW.out.trans HK3.out.1⟩
      · have HJX := Lib.hid hJx3
        clear hJx3
        gi_wp2
        refine bodyPost_ret (results_none rfl _ _ _) rfl ?_
        exact ⟨⟨_, rfl⟩, .inr ⟨_, by rw [HP.out]; exact range_pre hlt, HJX.out⟩⟩
    · obtain rfl : n2 = k := by omega
      have e1 : (n2 : Int) - 1 - n2 = -1 := by omega
      obtain ⟨pre, hp, hJ⟩ := PJ.out
      have HP := Lib.hid (And.intro hp hJ)
      rw [e1]
      clear e1 hp hJ
      gi_wp2
      go_end0
      exact ⟨⟨_, rfl⟩, .inl ⟨pre, HP.out.1, HP.out.2⟩⟩
end Go.Proofs.YtchnhjffpldpiaaDoor
