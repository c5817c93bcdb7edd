/- parts.Damage where all is as it should be. -/
import Derived.Test.YtchnhjffpldpiaaDoorPDam2
namespace Go.Proofs.YtchnhjffpldpiaaDoor
open Go Go.RowKit Go.Shelf
attribute [local go_sem] Oper.semAt_some

/-- What the outer round keeps. -/
structure DamI (n₀ tb sb m0 : Nat) (v : Value) (steps : List (Int × Int)) (w : World) (S : Nat → Prop) (pre : List (Int × Int)) (W : World) : Prop where
  bt : Boxed W tb 26 v
  bs : Boxed W sb 3 (.int .i64 (dsumL steps pre))
  low : ∀ k, S k → m0 ≤ k
  sz : m0 ≤ W.heap.size
  bel : Below n₀ w W

theorem DamI.ofs {n₀ tb sb m0 : Nat} {v : Value} {steps : List (Int × Int)} {w : World} (hn : n₀ ≤ w.heap.size) {B : Nat} (hB : n₀ ≤ B) (S : Nat → Prop) : OwnFrom B (DamI n₀ tb sb m0 v steps w S) := by
  rintro pre X Y row ⟨b1, b2, hl, hz, hb⟩ hg hr
  refine ⟨b1.kept hg (fun e => ?_), b2.kept hg (fun e => ?_), hl, Nat.le_trans hz hg.size, (ownFrom_below (β := Unit) hn hB) () X Y row hb hg hr⟩
  · obtain ⟨_, o, ho, hc⟩ := hr tb e.symm
    rw [show X.heap[tb]? = _ from b1] at ho; cases ho; cases hc
  · obtain ⟨_, o, ho, hc⟩ := hr sb e.symm
    rw [show X.heap[sb]? = _ from b2] at ho; cases ho; cases hc
theorem DamI.mind {n₀ tb sb m0 : Nat} {v : Value} {steps : List (Int × Int)} {w : World} (hn : n₀ ≤ w.heap.size) (h0 : n₀ ≤ m0) (ht : tb < m0) (hs : sb < m0) : Minds (DamI n₀ tb sb m0 v steps w) := by
  rintro S pre X Y row ⟨b1, b2, hl, hz, hb⟩ hg hr
  refine ⟨b1.kept hg (fun e => by have := hl tb (hr tb e.symm); omega), b2.kept hg (fun e => by have := hl sb (hr sb e.symm); omega), ?_, Nat.le_trans hz hg.size, hb.grown hg (by have := hb.size; omega) (fun k e => Nat.le_trans h0 (hl k (hr k e)))⟩
  rintro k (h | ⟨h, _⟩)
  · exact hl k h
  · omega

/-- What an inner round keeps. -/
structure DamJ (m0 n₀ tb sb b1 b2 : Nat) (v : Value) (d x1 x2 : Int) (S : Nat → Prop) (W W' : World) : Prop where
  bt : Boxed W' tb 26 v
  bs : Boxed W' sb 3 (.int .i64 d)
  e1 : Boxed W' b1 3 (.int .i64 x1)
  e2 : Boxed W' b2 3 (.int .i64 x2)
  kf : KeepsFrom m0 W W'
  same : ∀ k, S k → W'.heap[k]? = W.heap[k]?
  bel : Below n₀ W W'

theorem boxed_from {B b : Nat} {T : TypeId} {v : Value} {X Y : World} {row : Option Nat} (h : Boxed X b T v) (hg : X.grownBy Y row) (hr : ∀ r, row = some r → B ≤ r ∧ ∃ o : Obj, X.heap[r]? = some o ∧ o.isCells = false) : Boxed Y b T v :=
  h.kept hg (fun e => by obtain ⟨_, o, ho, hc⟩ := hr b e.symm; rw [show X.heap[b]? = _ from h] at ho; cases ho; cases hc)
theorem DamJ.ofs {m0 n₀ tb sb b1 b2 : Nat} {v : Value} {d x1 x2 : Int} {S : Nat → Prop} {W : World} (hS : ∀ k, S k → k < W.heap.size) (hn : n₀ ≤ W.heap.size) {B : Nat} (hB : W.heap.size ≤ B) : OwnFrom B (fun (_ : Unit) W' => DamJ m0 n₀ tb sb b1 b2 v d x1 x2 S W W') := by
  rintro _ X Y row ⟨h1, h2, h3, h4, h5, h6, h7⟩ hg hr
  refine ⟨boxed_from h1 hg hr, boxed_from h2 hg hr, boxed_from h3 hg hr, boxed_from h4 hg hr, (ownFrom_keepsFrom (β := Unit) hB) () X Y row h5 hg hr, fun k hk => ?_, (ownFrom_below (β := Unit) hn (Nat.le_trans hn hB)) () X Y row h7 hg hr⟩
  rw [hg.block k (Nat.lt_of_lt_of_le (hS k hk) h5.size) (fun e => by have := (hr k e.symm).1; have := hS k hk; omega)]
  exact h6 k hk

/-- No step so far is reached. -/
def DamN (steps : List (Int × Int)) (n2 : Nat) (x1 : Int) (J : World → Prop) (pre : List { k : Nat // k < n2 }) (W : World) : Prop := (∀ i ∈ pre, x1 < (steps[n2 - 1 - i.val]!).1) ∧ J W
/-- The last one is. -/
def DamX (steps : List (Int × Int)) (n2 : Nat) (x1 : Int) (J : Int → World → Prop) (cc : Code) (pre : List { k : Nat // k < n2 }) (W : World) : Prop :=
  cc = .exit 4 ∧ ∃ p2 i, pre = p2 ++ [i] ∧ (∀ j ∈ p2, x1 < (steps[n2 - 1 - j.val]!).1) ∧ (steps[n2 - 1 - i.val]!).1 ≤ x1 ∧ J (steps[n2 - 1 - i.val]!).2 W
theorem DamN.none {steps : List (Int × Int)} {n2 : Nat} {x1 : Int} {J : World → Prop} {ys : List { k : Nat // k < n2 }} {W : World} (h : DamN steps n2 x1 J ys W) (hy : ys.map Subtype.val = List.range n2) : dmgUp steps x1 n2 = 0 := by
  refine dmg_none steps x1 n2 fun j hj => ?_
  have hm : j ∈ ys.map Subtype.val := by rw [hy]; exact List.mem_range.2 hj
  obtain ⟨i, hi, rfl⟩ := List.mem_map.1 hm
  exact h.1 i hi
theorem DamX.some {steps : List (Int × Int)} {n2 : Nat} {x1 : Int} {J : Int → World → Prop} {cc : Code} {pre : List { k : Nat // k < n2 }} {W : World} (h : DamX steps n2 x1 J cc pre W) (hy : pre.map Subtype.val <+: List.range n2) : J (dmgUp steps x1 n2) W := by
  obtain ⟨_, p2, i, rfl, h1, h2, h3⟩ := h
  have hl : p2.length < n2 := by
    have := hy.length_le
    simp at this
    omega
  have hpos : ∀ k, (h : k < p2.length + 1) → ((p2 ++ [i]).map Subtype.val)[k]'(by simpa using h) = k := fun k hk => by
    rw [hy.getElem]; simp
  have hi : i.val = p2.length := by
    have := hpos p2.length (by omega)
    simpa using this
  rw [dmg_first steps x1 n2 p2.length hl (fun j hj => ?_) (by rw [← hi]; exact h2), ← hi]
  · exact h3
  · have h4 := hpos j (by omega)
    rw [List.getElem_map, List.getElem_append_left hj] at h4
    have := h1 p2[j] (List.getElem_mem hj)
    rwa [h4] at this

variable {zs : List Int} {steps : List (Int × Int)} {a a2 : Option Addr} {n c n2 c2 : Nat} {w : World} {B : Nat}

set_option maxRecDepth 100000 in
set_option maxHeartbeats 4000000 in
theorem dam_ok (hB : B ≤ w.heap.size) (hR : Rd encInt 1 w B a n zs) (hS : Rd encPair 2 w B a2 n2 steps) (he : seriesE zs = 0) (hs : stepsE steps = 0) :
    Calls Tryd.prog 43 #[.slice a n c, .slice a2 n2 c2] w fun e w' => e = .returned (.tuple #[.int .i64 (dsumL steps (cycP zs)), .int .i64 0]) ∧ Below w.heap.size w w' := by
  obtain ⟨hlen, hld⟩ := loads_of he
  have hn := hR.len
  have hna : n ≤ 300 := by omega
  obtain ⟨h8', hst⟩ := steps_of hs
  have h8 : n2 ≤ 8 := by rw [hS.len]; exact h8'
  have h8z : ¬ (8 : Int) < (n2 : Int) := by omega
  have hgood : ∀ k, k < n2 → badStep steps k = false := fun k hk => by
    cases e : badStep steps k with
    | false => rfl
    | true =>
      rw [hS.len] at hk
      unfold stepsE at hs
      rw [if_neg (by omega), if_pos (any_range.2 ⟨k, hk, e⟩)] at hs
      omega
  have SE := dam_series (c := c) hB hR 0 he (.slice a2 n2 c2)
  have IT := Lib.hid (fun (cb : Nat) (W : World) (hW : Below w.heap.size w W) (hc : W.cell? ⟨cb, 0, none⟩ = some (.slice a n c)) (hcl : cb < W.heap.size) =>
    count1_mine 8 (by omega) zs hld cb a n c W B (Nat.le_trans hB hW.size) (hR.below (hW.mono hB)) hna hcl hc w.heap.size)
  have HGOOD := Lib.hid hgood
  have HST := Lib.hid hst
  have HBS := Lib.hid hB
  have HSL := Lib.hid hS.len
  have ST : Hid (∀ W, Below w.heap.size w W → Rd encPair 2 W B a2 n2 steps) := fun W hW => hS.below (hW.mono hB)
  have hcl : (cycP zs).length ≤ 300 := by have := cycP_len zs; omega
  have hvh := (cyc_halves zs).2
  obtain ⟨cs, hcs⟩ : ∃ cs, cycP zs = cs := ⟨_, rfl⟩
  rw [hcs] at IT hcl hvh ⊢
  have HV := Lib.hid (And.intro hcl hvh)
  clear hR hB he hS hgood hst hs hld hn hlen h8' hcs hcl hvh
  refine (callsIn_wide (n := 9)).1 ?_
  refine callsIn_of_wp_marks Tryd.func43 rfl trivial ?_ rfl
  simp only [Tryd.ntmps43, List.size_toArray, List.length_cons, List.length_nil, Nat.reduceAdd, Nat.reduceSub, Array.replicate_succ, Array.replicate_zero, List.push_toArray, List.append_toArray, List.nil_append, List.cons_append]
  have f1 : Fence.wide.fn 62 := trivial
  have f2 : Fence.wide.fn 63 := trivial
  have f3 : Fence.wide.fn 66 := trivial
  have f4 : Fence.wide.fn 87 := trivial
  gi_wp2_with (gi_at_call 62; refine (callsIn_wide.2 (SE.out _ rfl)).mono ?_; rintro e w1 ⟨rfl, b1, b2, hb, hz⟩; have hc0 := b1.cell; have B1 := Lib.hid b1; have B2 := Lib.hid b2; have HB1 := Lib.hid hb; clear b1 b2 hb SE)
  gi_loopg [23] n2 (fun gg s23 wr => ∃ k : Nat, k ≤ n2 ∧ n2 - k ≤ gg ∧ s23 = .int .i64 k ∧ Aside (Below w1.heap.size w1 wr))
  case atStart => exact ⟨0, Nat.zero_le _, by omega, rfl, Below.refl _ _⟩
  case round =>
    obtain ⟨k, hk, hg, rfl, BW⟩ := hrel
    have HBW := Lib.hid (HB1.out.trans (BW.out.mono HB1.out.size))
    have hcs := (BW.out.cell (p := ⟨w.heap.size, 0, none⟩) B1.out.lt).trans B1.out.cell
    have hsz : w.heap.size + 1 < wr.heap.size := Nat.lt_of_lt_of_le hz BW.out.size
    have hsz0 : w.heap.size < wr.heap.size := by omega
    clear hc0
    by_cases hlt : k < n2
    · have hltz : (k : Int) < (n2 : Int) := by omega
      have hk0 : (0 : Int) ≤ (k : Int) := by omega
      obtain ⟨b, off, rfl, hb, x1, x2⟩ := rd_pair (ST.out _ HBW.out) k hlt
      have hb2 : b < wr.heap.size := by have := HBS.out; omega
      have BS := Lib.hid (HGOOD.out k hlt)
      have BS2 : Hid (badStep steps k = (!inB (steps[k]!).1 0 1000000 || !inB (steps[k]!).2 0 1000000 || (decide (0 < k) && decide ((steps[k]!).1 ≤ (steps[k - 1]!).1)))) := rfl
      rw [BS2.out] at BS
      clear BS2
      obtain ⟨s, hs⟩ : ∃ s, steps[k]! = s := ⟨_, rfl⟩
      rw [hs] at x1 x2 BS
      obtain ⟨sa, sb⟩ := s
      simp only at x1 x2
      clear hs
      have NW : Hid (∀ W, Below (wr.alloc (.cells #[.int .i64 sa, .int .i64 sb] 30)).heap.size (wr.alloc (.cells #[.int .i64 sa, .int .i64 sb] 30)) W → Below w1.heap.size w1 W) := fun W hW => by
        have h1 : Below wr.heap.size wr W := ((Below.refl _ wr).alloc (Nat.le_refl _) _).trans (hW.mono (by rw [World.size_alloc]; exact Nat.le_succ _))
        exact BW.out.trans (h1.mono BW.out.size)
      have h1 : inB sa 0 1000000 = true := by
        have := BS.out
        cases e : inB sa 0 1000000 with
        | true => rfl
        | false => simp [e] at this
      have h2 : inB sb 0 1000000 = true := by
        have := BS.out
        cases e : inB sb 0 1000000 with
        | true => rfl
        | false => simp [e] at this
      have W1 := Lib.hid (within_q2 sa 0 1000000 true h1)
      have W2 := Lib.hid (within_q2 sb 0 1000000 true h2)
      cases k with
      | zero =>
        rw [Nat.zero_mul, Nat.add_zero] at x1 x2
        have h0 : 0 < n2 := hlt
        clear h1 h2 BS
        gi_wp2
        gi_quiet ((gi_at_call 66; (first | (with_reducible exact CallsIn.quiet_of_same (callsIn_wide.2 (W1.out _))) | (with_reducible exact CallsIn.quiet_of_same (callsIn_wide.2 (W2.out _))))))
        refine world_gen (w := wr.alloc (.cells #[.int .i64 sa, .int .i64 sb] 30)) (Q := fun W => Exit.then _ _ _ _ W) (fun W bW => ?_) _
        have HF := Lib.hid (NW.out W bW)
        clear bW hcs x1 x2
        gi_wp2
        gi_roundg (n2 - (0 + 1))
        case measure => omega
        case rel => exact ⟨0 + 1, by omega, by omega, by go_num, HF.out⟩
      | succ k =>
        have hkz : ((k : Int) + 1 == 0) = false := by rw [beq_eq_false_iff_ne]; omega
        have hkp : (0 : Int) < (k : Int) + 1 := by omega
        obtain ⟨b', off', e, _, p1, _⟩ := rd_pair (ST.out _ HBW.out) k (by omega)
        cases e
        rw [Nat.add_sub_cancel] at BS
        generalize (steps[k]!).1 = pv at p1 BS
        have hle : ¬ sa ≤ pv := fun hh => by
          have := BS.out
          rw [h1, h2, decide_eq_true hh] at this
          simp at this
        have hd1 : decide (sa ≤ pv) = false := decide_eq_false hle
        clear h1 h2 BS
        gi_wp2
        gi_quiet ((gi_at_call 66; (first | (with_reducible exact CallsIn.quiet_of_same (callsIn_wide.2 (W1.out _))) | (with_reducible exact CallsIn.quiet_of_same (callsIn_wide.2 (W2.out _))))))
        refine world_gen (w := wr.alloc (.cells #[.int .i64 sa, .int .i64 sb] 30)) (Q := fun W => Exit.then _ _ _ _ W) (fun W bW => ?_) _
        have HF := Lib.hid (NW.out W bW)
        clear bW hcs x1 x2 p1
        gi_wp2
        gi_roundg (n2 - (k + 1 + 1))
        case measure => omega
        case rel => exact ⟨k + 1 + 1, by omega, by omega, by go_num, HF.out⟩
    · have hltz : ¬ (k : Int) < (n2 : Int) := by omega
      obtain rfl : n2 = k := by omega
      clear hcs
      obtain ⟨w2, rfl⟩ : ∃ w2, w2 = wr := ⟨_, rfl⟩
      gi_wp2_with (gi_at_call 63; refine (callsIn_wide.2 (count_any _ _ _ _ _ rfl)).mono ?_; rintro e w3 ⟨rfl, rfl⟩)
      have hbw2 : Below w.heap.size w (w2.alloc (.cells #[.slice a n c] 22)) := HBW.out.alloc HBW.out.size _
      have hcb : (w2.alloc (.cells #[.slice a n c] 22)).cell? ⟨w2.heap.size, 0, none⟩ = some (.slice a n c) := (Boxed.new w2 22 (.slice a n c)).cell
      have IT2 := Lib.hid (IT.out w2.heap.size _ hbw2 hcb (by rw [World.size_alloc]; omega))
      have c1 : Boxed w2 w.heap.size 26 (.slice a2 n2 c2) := (BW.out.block _ B1.out.lt).trans B1.out
      have c2' : Boxed w2 (w.heap.size + 1) 3 (.int .i64 0) := (BW.out.block _ B2.out.lt).trans B2.out
      have hm1 : w.heap.size + 1 < w2.heap.size + 1 := by omega
      have H0 := Lib.hid (show DamI w.heap.size w.heap.size (w.heap.size + 1) (w2.heap.size + 1) (.slice a2 n2 c2) steps w (fun _ => False) [] (w2.alloc (.cells #[.slice a n c] 22)) from ⟨c1.alloc _, by rw [dsumL_nil]; exact c2'.alloc _, (fun _ h => h.elim), by rw [World.size_alloc]; exact Nat.le_refl _, hbw2⟩)
      have HZ := Lib.hid (show w.heap.size ≤ (w2.alloc (.cells #[.slice a n c] 22)).heap.size from hbw2.size)
      clear hcb IT hbw2 c1 c2'
      refine wpIn_rangeFunc_mine rfl (by omega) (gf := 113) (lb := #[.pointer (some ⟨w2.heap.size, 0, none⟩)]) rfl trivial (enters_of Tryd.func113 (by kernel_rfl) rfl) IT2.out HZ.out (fun _ => rfl)
        (DamI w.heap.size w.heap.size (w.heap.size + 1) (w2.heap.size + 1) (.slice a2 n2 c2) steps w) (fun S => DamI.ofs (Nat.le_refl _) HZ.out S) (DamI.mind (Nat.le_refl _) (by omega) (by omega) (by omega)) H0.out
        (fun x a' W => ∃ b1 b2 : Nat, w2.heap.size + 1 ≤ b1 ∧ w2.heap.size + 1 ≤ b2 ∧ Boxed W b1 3 (.int .i64 x.1) ∧ Boxed W b2 3 (.int .i64 x.2) ∧ a' = { tmps := #[.slice a n c, .slice a2 n2 c2, undef, .pointer (some ⟨w.heap.size, 0, none⟩), .pointer (some ⟨w.heap.size + 1, 0, none⟩), u5, .int .i64 0, u7, u8, .pointer (some ⟨b1, 0, none⟩), .pointer (some ⟨b2, 0, none⟩), undef, undef, .slice a n c, .int .i64 0, .int .i64 0, .bool false, undef, .slice a2 n2 c2, .int .i64 n2, .bool (decide ((8 : Int) < (n2 : Int))), .slice a2 n2 c2, .int .i64 n2, .int .i64 n2, .bool false, u25, u26, u27, u28, u29, u30, u31, u32, u33, u34, u35, u36, u37, u38, u39, u40, u41, u42, u43, u44, u45, u46, u47, u48, u49, u50, u51, u52, u53, .slice a n c, .func (.func 113) #[] #[.pointer (some ⟨w2.heap.size, 0, none⟩)], .int .i64 x.1, .int .i64 x.2, undef, undef, undef, undef, undef, undef, undef, undef, undef, undef, undef, undef, undef, undef, undef], defers := [] })
        (fun x a' _ X Y row hs hg hr => by
          obtain ⟨b1, b2, e1, e2, e3, e4, e5⟩ := hs
          exact ⟨b1, b2, e1, e2, boxed_own b1 3 (fun (_ : Unit) => Value.int .i64 x.1) () X Y row e3 hg (fun r e => (hr r e).2), boxed_own b2 3 (fun (_ : Unit) => Value.int .i64 x.2) () X Y row e4 hg (fun r e => (hr r e).2), e5⟩) ?assign ?body ?done
      case assign =>
        rintro l S pre ⟨x1, x2⟩ W K hI hS hK
        have hzW := hI.sz
        have HI := Lib.hid hI
        have b1 := (Boxed.new W 3 (.int .i64 x1)).alloc (.cells #[.int .i64 x2] 3)
        have b2 := Boxed.new (W.alloc (.cells #[.int .i64 x1] 3)) 3 (.int .i64 x2)
        rw [World.size_alloc] at b2
        have HX := Lib.hid (And.intro b1 b2)
        clear b1 b2 hI
        gi_wp2
        refine hK _ _ (((KeepsOthers.alloc _ _).trans (KeepsOthers.alloc _ _)).from _) (fun k hk => ?_) ?_ ?_ ?_
        · have := hS k hk
          rw [Below.heap_alloc _ _ _ (by rw [World.size_alloc]; omega), Below.heap_alloc _ _ _ (by omega)]
        · exact ((Below.refl _ _).alloc (by omega) _).alloc (by simp; omega) _
        · exact (DamI.ofs (Nat.le_refl _) HZ.out S).alloc _ ((DamI.ofs (Nat.le_refl _) HZ.out S).alloc _ HI.out)
        · refine ⟨W.heap.size, W.heap.size + 1, hzW, by omega, HX.out.1, HX.out.2, ?_⟩
          rfl
      case body =>
        rintro l S pre ⟨x1, x2⟩ a' W hl ⟨r, hr⟩ hI hSr ⟨b1, b2, hb1, hb2, bx1, bx2, rfl⟩ hpre
        have hmem : (x1, x2) ∈ cs := hpre.subset (by simp)
        have hx2 : x2 = 1 ∨ x2 = 2 := HV.out.2 _ hmem
        have hd := dsumL_bd HST.out (show Halves pre from fun y hy => HV.out.2 y (hpre.subset (List.mem_append_left _ hy)))
        have hpl : pre.length ≤ 300 := by
          have h1 := hpre.length_le
          have h2 := HV.out.1
          rw [List.length_append] at h1
          omega
        have DS := Lib.hid (dsumL_snoc steps pre (x1, x2))
        have hsW := hI.bel.size
        have hzW := hI.sz
        have hm0 : (w2.alloc (.cells #[.slice a n c] 22)).heap.size = w2.heap.size + 1 := World.size_alloc _ _
        have j0 : DamJ (w2.heap.size + 1) w.heap.size w.heap.size (w.heap.size + 1) b1 b2 (.slice a2 n2 c2) (dsumL steps pre) x1 x2 S W (W.alloc (.cells #[.slice a2 n2 c2] 26)) :=
          ⟨hI.bt.alloc _, hI.bs.alloc _, bx1.alloc _, bx2.alloc _, (KeepsOthers.alloc _ _).from _, fun k hk => Below.heap_alloc _ _ _ (hSr k hk).2, (Below.refl _ _).alloc hsW _⟩
        have cT := hI.bt.cell
        have hlow := hI.low
        have HB := Lib.hid hI.bel
        generalize dsumL steps pre = d at hd DS j0
        have hd6 : d ≤ 600000000 := by omega
        have hd0 : 0 ≤ d := hd.1
        have HI := Lib.hid (And.intro hlow (And.intro hSr hpre))
        clear hd hpre hmem hI hlow bx1 bx2
        gi_wp2_with (gi_at_call 87; refine (CallsIn.inRound l (callsIn_wide.2 (back_any _ _ _ _ _ rfl))).mono ?_; rintro e w' ⟨rfl, rfl⟩)
        have bN := Boxed.new W 26 (.slice a2 n2 c2)
        have hr' : (W.alloc (.cells #[.slice a2 n2 c2] 26)).heap[l]? = some (.loop r) := (Below.heap_alloc W _ l (Array.getElem?_eq_some_iff.1 hr).1).trans hr
        have J0 := Lib.hid j0
        clear j0 cT hSr
        have hW1 : (W.alloc (.cells #[.slice a2 n2 c2] 26)).heap.size = W.heap.size + 1 := World.size_alloc _ _
        have JO : ∀ d', OwnFrom (W.alloc (.cells #[.slice a2 n2 c2] 26)).heap.size (fun (_ : Unit) W' => DamJ (w2.heap.size + 1) w.heap.size w.heap.size (w.heap.size + 1) b1 b2 (.slice a2 n2 c2) d' x1 x2 S W W') :=
          fun d' => DamJ.ofs (fun k hk => (HI.out.2.1 k hk).2) hsW (by omega)
        refine wpIn_rangeFunc_ownN (n := 9 - 1 - 1) (l₀ := l) (r₀ := r) rfl hr' (by decide) (gf := 122) (lb := #[.pointer (some ⟨W.heap.size, 0, none⟩)]) rfl trivial (enters_of Tryd.func122 (by kernel_rfl) rfl)
          (back1_stops (9 - 1 - 1 - 1) (by decide) steps a2 n2 c2 W.heap.size w.heap.size B (W.alloc (.cells #[.slice a2 n2 c2] 26)) HBS.out (by omega) (ST.out _ (HB.out.alloc hsW _)) bN l) (fun h k => h.t k) (KpB.b (by omega)) (Below.refl _ _) (fun _ => by rfl)
          (DamN steps n2 x1 fun W' => DamJ (w2.heap.size + 1) w.heap.size w.heap.size (w.heap.size + 1) b1 b2 (.slice a2 n2 c2) d x1 x2 S W W')
          (DamX steps n2 x1 fun e W' => DamJ (w2.heap.size + 1) w.heap.size w.heap.size (w.heap.size + 1) b1 b2 (.slice a2 n2 c2) (d + x2 * e) x1 x2 S W W')
          (fun s X Y row hs hg hr => ⟨hs.1, JO d () X Y row hs.2 hg hr⟩)
          (fun cc s X Y row hs hg hr => by obtain ⟨h1, p2, i, h2, h3, h4, h5⟩ := hs; exact ⟨h1, p2, i, h2, h3, h4, JO _ () X Y row h5 hg hr⟩)
          ⟨(fun i hi => by cases hi), J0.out⟩
          (fun y a'' W' => ∃ b3 : Nat, w2.heap.size ≤ b3 ∧ W'.heap[b3]? = some (.cells #[.int .i64 (steps[n2 - 1 - y.val]!).1, .int .i64 (steps[n2 - 1 - y.val]!).2] 30 (0, 0)) ∧ a'' = { tmps := #[.slice a n c, .slice a2 n2 c2, undef, .pointer (some ⟨w.heap.size, 0, none⟩), .pointer (some ⟨w.heap.size + 1, 0, none⟩), u5, .int .i64 0, u7, u8, .pointer (some ⟨b1, 0, none⟩), .pointer (some ⟨b2, 0, none⟩), undef, .pointer (some ⟨b3, 0, none⟩), .slice a n c, .int .i64 0, .int .i64 0, .bool false, undef, .slice a2 n2 c2, .int .i64 n2, .bool (decide ((8 : Int) < (n2 : Int))), .slice a2 n2 c2, .int .i64 n2, .int .i64 n2, .bool false, u25, u26, u27, u28, u29, u30, u31, u32, u33, u34, u35, u36, u37, u38, u39, u40, u41, u42, u43, u44, u45, u46, u47, u48, u49, u50, u51, u52, u53, .slice a n c, .func (.func 113) #[] #[.pointer (some ⟨w2.heap.size, 0, none⟩)], .int .i64 x1, .int .i64 x2, .slice a2 n2 c2, .func (.func 122) #[] #[.pointer (some ⟨W.heap.size, 0, none⟩)], .int .i64 ((n2 - 1 - y.val : Nat) : Int), .agg #[.int .i64 (steps[n2 - 1 - y.val]!).1, .int .i64 (steps[n2 - 1 - y.val]!).2], undef, undef, undef, undef, undef, undef, undef, undef, undef, undef, undef], defers := [] })
          (fun y a'' _ X Y row hs hg hr => by
            obtain ⟨b3, e1, e2, e3⟩ := hs
            refine ⟨b3, e1, (hg.block b3 (Array.getElem?_eq_some_iff.1 e2).1 (fun e => ?_)).trans e2, e3⟩
            obtain ⟨_, o, ho, hc⟩ := hr b3 e.symm
            rw [e2] at ho; cases ho; cases hc)
          ?assign2 ?body2 ?done2 ?stop2
        case assign2 =>
          rintro l2 pre' y W' K hN hK
          have hzW' := hN.2.kf.size
          have HN := Lib.hid hN
          clear hN
          simp only [encBk]
          obtain ⟨st, hst⟩ : ∃ x, steps[n2 - 1 - y.val]! = x := ⟨_, rfl⟩
          rw [hst] at hK ⊢
          obtain ⟨sa, sb⟩ := st
          clear hst
          gi_wp2
          refine hK _ _ ((KeepsOthers.alloc _ _).from _) ⟨(Below.refl _ _).alloc (by omega) _, fun x => x.alloc _⟩ ⟨HN.out.1, (JO d).alloc (s := ()) _ HN.out.2⟩ ⟨W'.heap.size, by omega, heap_alloc_new _ _, rfl⟩
        case body2 =>
          rintro l2 pre' y a'' W' _ _ hN ⟨b3, hb3, hx3, rfl⟩ hlt
          have HSI := Lib.hid (HST.out (n2 - 1 - y.val) (by have := y.2; have := HSL.out; omega))
          obtain ⟨q1, q2, q3, q4⟩ := HSI.out
          have c1 := hN.2.e1.cell
          have c2 := hN.2.e2.cell
          have cS := hN.2.bs.cell
          have fS := hN.2.bs.frozen
          have hzW' := hN.2.kf.size
          have HN := Lib.hid hN
          obtain ⟨st, hst⟩ : ∃ x, steps[n2 - 1 - y.val]! = x := ⟨_, rfl⟩
          rw [hst] at hx3 q1 q2 q3 q4 ⊢
          have HSTE := Lib.hid hst
          obtain ⟨sa, sb⟩ := st
          simp only at hx3 q1 q2 q3 q4 ⊢
          have c3 : W'.cell? ⟨b3, 0, none⟩ = some (.int .i64 sa) := by simp [World.cell?, hx3]
          have c4 : W'.cell? ⟨b3, 1, none⟩ = some (.int .i64 sb) := by simp [World.cell?, hx3]
          clear hN hst hx3 HSI hlt
          by_cases hle : sa ≤ x1
          · have hled : decide (sa ≤ x1) = true := decide_eq_true hle
            have HLE := Lib.hid hle
            clear hle
            rcases hx2 with rfl | rfl
            all_goals
              gi_wp2
              refine ⟨(KeepsOthers.setCell _ _ _).from _, rfl, pre', y, rfl, HN.out.1, by rw [HSTE.out]; exact HLE.out, ?_⟩
              have h := HN.out.2
              rw [HSTE.out]
              refine ⟨h.bt.other (by omega) _, ?_, h.e1.other (by omega) _, h.e2.other (by omega) _, h.kf.trans ((KeepsOthers.setCell _ _ _).from _), fun k hk => ?_, h.bel.setCell (p := ⟨w.heap.size + 1, 0, none⟩) (Nat.le_succ _) _⟩
              · first | exact h.bs.set _ | (simpa using h.bs.set _)
              · rw [Below.heap_setCell _ _ _ _ (by have := HI.out.1 k hk; simp only; omega)]
                exact h.same k hk
          · have hled : decide (sa ≤ x1) = false := decide_eq_false hle
            have HLE := Lib.hid hle
            clear hle
            gi_wp2
            refine ⟨KeepsFrom.refl _ _, KpB.refl _, fun i hi => ?_, HN.out.2⟩
            rcases List.mem_append.1 hi with hi | hi
            · exact HN.out.1 i hi
            · rw [show i = y by simpa using hi, HSTE.out]
              have := HLE.out
              show x1 < sa
              omega
        case done2 =>
          rintro ys W' hys hN
          have HN := Lib.hid hN
          have HD := Lib.hid (hN.none hys)
          clear hN hys
          gi_wp2
          have h := HN.out.2
          refine ⟨by rw [hm0]; exact h.kf, h.same, h.bel, h.bt, ?_, HI.out.1, Nat.le_trans hzW h.kf.size, HB.out.trans h.bel⟩
          rw [DS.out, ← HSL.out, HD.out, Int.mul_zero, Int.add_zero]
          exact h.bs
        case stop2 =>
          rintro cc pre' W' hys hX
          obtain rfl := hX.1
          have HX := Lib.hid (hX.some hys)
          clear hX hys
          gi_wp2
          have h := HX.out
          refine ⟨by rw [hm0]; exact h.kf, h.same, h.bel, h.bt, ?_, HI.out.1, Nat.le_trans hzW h.kf.size, HB.out.trans h.bel⟩
          rw [DS.out, ← HSL.out]
          exact h.bs
      case done =>
        rintro D S W hD hI hK
        have hc := hI.bs.cell
        have hf := hI.bs.frozen
        have HI := Lib.hid hI
        clear hI
        gi_wp2
        have hK2 := (KeepsOthers.setCell W ⟨w.heap.size + 1, 0, none⟩ (.int .i64 (dsumL steps cs))).same D _ hK rfl
        refine ⟨by simp, .inl ⟨_, _, rfl, run_takeDeferred hK2, ?_⟩⟩
        have hb5 : Boxed ((W.setCell ⟨w.heap.size + 1, 0, none⟩ (.int .i64 (dsumL steps cs))).putObj D (.deferred none)) (w.heap.size + 1) 3 (.int .i64 (dsumL steps cs)) :=
          (HI.out.bs.set _).kept (grownBy_putObj' _ D _) (fun e => by cases e; rw [World.size_alloc] at hD; omega)
        have hB5 : Below w.heap.size w ((W.setCell ⟨w.heap.size + 1, 0, none⟩ (.int .i64 (dsumL steps cs))).putObj D (.deferred none)) :=
          (HI.out.bel.setCell (p := ⟨w.heap.size + 1, 0, none⟩) (Nat.le_succ _) _).trans (belowK_b (w := w) (Nat.le_refl _) _ D _ _ (by rw [World.size_alloc] at hD; omega) hK2 rfl rfl)
        generalize (W.setCell ⟨w.heap.size + 1, 0, none⟩ (.int .i64 (dsumL steps cs))).putObj D (.deferred none) = W5 at hb5 hB5 ⊢
        have hc5 := hb5.cell
        refine ⟨.tuple #[.int .i64 (dsumL steps cs), .int .i64 0], ?_, rfl, hB5⟩
        simp [results, Tryd.results43, go_sem, hc5]
end Go.Proofs.YtchnhjffpldpiaaDoor
