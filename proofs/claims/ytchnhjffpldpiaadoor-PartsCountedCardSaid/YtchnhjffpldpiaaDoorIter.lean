/- parts.count's iterator. -/
import Derived.Test.YtchnhjffpldpiaaDoorSeries
import Derived.Test.YtchnhjffpldpiaaDoorDel
import Derived.Test.YtchnhjffpldpiaaDoorRF
import Derived.Test.YtchnhjffpldpiaaDoorHeadIn
import Derived.Shelf.Abstract
import Derived.Shelf.RegionOpen
import Derived.WalkKit
import Derived.OwnWalkIn
import Derived.TacticsInMore
import Derived.LoopNIn
import Derived.LoopIn
import Derived.Sort.LoopGhostIn
import Derived.Sort.QuietIn
import Derived.Sort.CutIn
namespace Go.Proofs.YtchnhjffpldpiaaDoor
open Go Go.RowKit Go.Shelf
attribute [local go_sem] Oper.semAt_some

/-- How the iterator's own things lie between two steps: the turning points ts, the pile; J is the caller's. -/
structure It (E : TypeId) (J : (Nat → Prop) → List (Int × Int) → World → Prop) (B : Nat) (S : Nat → Prop) (out : List (Int × Int)) (ts pile : List Int) (vt vp : Value) (W : World) : Prop where
  low : B ≤ W.heap.size
  j : J S out W
  t : OwnI E W B vt ts
  tS : ∀ g, vt.ownBlock = some g → S g
  p : OwnI E W B vp pile
  pS : ∀ g, vp.ownBlock = some g → S g
  ne : ∀ g, vt.ownBlock = some g → vp.ownBlock ≠ some g

variable {E : TypeId} {J : (Nat → Prop) → List (Int × Int) → World → Prop} {B : Nat} {S : Nat → Prop} {out out' : List (Int × Int)} {ts pile pile' : List Int} {vt vp vp' : Value} {W W' : World}

theorem It.turn (h : It E J B S out ts pile vt vp W) (hJ : Minds J) (G : W.grownBy W' vp.ownBlock) (O : OwnI E W' B vp' pile') (hv : vp'.ownBlock = vp.ownBlock ∨ ∀ g, vp'.ownBlock = some g → W.heap.size ≤ g) : ∃ S', It E J B S' out ts pile' vt vp' W' := by
  refine ⟨grow S W W', Nat.le_trans h.low G.size, hJ _ _ _ _ _ h.j G h.pS, h.t.kept fun g hg => G.block g (h.t.own hg).2 (fun e => h.ne g hg e.symm), fun g hg => .inl (h.tS g hg), O, fun g hg => ?_, fun g hg e => ?_⟩
  · rcases hv with hv | hv
    · exact .inl (h.pS g (by rw [← hv]; exact hg))
    · exact .inr ⟨hv g hg, (O.own hg).2⟩
  · rcases hv with hv | hv
    · exact h.ne g hg (by rw [← hv]; exact e)
    · have := hv g e; have := (h.t.own hg).2; omega
theorem It.fresh (h : It E J B S out ts pile vt vp W) (hJ : Minds J) (hb : Below W.heap.size W W') : ∃ S', It E J B S' out ts pile vt vp W' := by
  refine ⟨grow S W W', Nat.le_trans h.low hb.size, hJ _ _ _ _ none h.j ⟨hb.os, hb.tape, hb.output, hb.size, fun k hk _ => hb.block k hk⟩ (fun r e => by cases e), h.t.below hb, fun g hg => .inl (h.tS g hg), h.p.below hb, fun g hg => .inl (h.pS g hg), h.ne⟩
theorem It.told (h : It E J B S out ts pile vt vp W) (hj : J S out' W') (hk : ∀ k, S k → W'.heap[k]? = W.heap[k]?) (hz : W.heap.size ≤ W'.heap.size) : It E J B S out' ts pile vt vp W' :=
  ⟨Nat.le_trans h.low hz, hj, h.t.kept fun g hg => hk g (h.tS g hg), h.tS, h.p.kept fun g hg => hk g (h.pS g hg), h.pS, h.ne⟩

theorem It.cut (h : It E J B S out ts pile vt vp W) (O : OwnI E W B vp' pile') (e : vp'.ownBlock = vp.ownBlock) : It E J B S out ts pile' vt vp' W :=
  ⟨h.low, h.j, h.t, h.tS, O, (fun g hg => h.pS g (by rw [← e]; exact hg)), fun g hg e' => h.ne g hg (by rw [← e]; exact e')⟩

theorem amount_r (a b : Int) (w : World) (ha0 : -1000000 ≤ a) (ha1 : a ≤ 1000000) (hb0 : -1000000 ≤ b) (hb1 : b ≤ 1000000) :
    Calls Tryd.prog 115 #[.int .i64 a, .int .i64 b] w fun e w' => e = .returned (.int .i64 (dist a b)) ∧ w' = w :=
  (amount_any a b w ha0 ha1 hb0 hb1).mono fun _ _ h => ⟨h.1, h.2.symm⟩
theorem delete_q {w : World} {B : Nat} {xs : List Int} {g off n cap : Nat} (h : OwnI 3 w B (.slice (some ⟨g, off, none⟩) n cap) xs) (q : Nat) (hq : xs.length = q + 4) (i j : Int) (hi : i = (q : Int) + 1) (hj : j = (q : Int) + 3) :
    Calls Tryd.prog 116 #[.slice (some ⟨g, off, none⟩) n cap, .int .i64 i, .int .i64 j] w fun e w' =>
      e = .returned (.slice (some ⟨g, off, none⟩) (q + 2) cap) ∧ OwnI 3 w' B (.slice (some ⟨g, off, none⟩) (q + 2) cap) (xs.take (q + 1) ++ [xs[q + 3]!]) ∧ w.grownBy w' (some g) := by
  subst hi hj
  have hn : n = q + 4 := by obtain ⟨_, e, _⟩ := h.at; omega
  subst hn
  exact delete_any h q hq
theorem dist_bd (a b : Int) (ha0 : -1000000 ≤ a) (ha1 : a ≤ 1000000) (hb0 : -1000000 ≤ b) (hb1 : b ≤ 1000000) : 0 ≤ dist a b ∧ dist a b ≤ 2000000 := by
  unfold dist; omega

set_option maxRecDepth 100000 in
set_option maxHeartbeats 4000000 in
theorem count1_mine (n : Nat) (hn : 5 ≤ n) (zs : List Int) (hl : Loads zs) (cb : Nat) (a : Option Addr) (na ca : Nat) (w : World) (B : Nat) (hB : B ≤ w.heap.size) (hR : Rd encInt 1 w B a na zs) (hna : na ≤ 300) (hcl : cb < w.heap.size)
    (hcb : w.cell? ⟨cb, 0, none⟩ = some (.slice a na ca)) (n₀ : Nat) :
    SeqMine Fence.wide n Tryd.prog 113 #[.pointer (some ⟨cb, 0, none⟩)] (fun x : Int × Int => #[Value.int .i64 x.1, Value.int .i64 x.2]) n₀ (cycP zs) w := by
  intro l J W hW hJ hY h0
  have hcW : W.cell? ⟨cb, 0, none⟩ = some (.slice a na ca) := (hW.cell (p := ⟨cb, 0, none⟩) hcl).trans hcb
  have T := Lib.hid (turning_any zs a na ca W B (Nat.le_trans hB hW.size) (hR.below (hW.mono hB)) hna)
  have HY := Lib.hid hY
  have HL := Lib.hid hR.len
  have HJ := Lib.hid hJ
  have H0 := Lib.hid h0
  clear hY hJ h0 hR hcb hW hB
  refine callsIn_of_wp Tryd.func113 rfl trivial ?_ rfl
  simp only [Tryd.ntmps113, List.size_toArray, List.length_cons, List.length_nil, Nat.reduceAdd, Nat.reduceSub, Array.replicate_succ, Array.replicate_zero, List.push_toArray, List.append_toArray, List.nil_append, List.cons_append]
  have f1 : Fence.wide.fn 114 := trivial
  have f2 : Fence.wide.fn 115 := trivial
  have f3 : Fence.wide.fn 116 := trivial
  have n1 : 1 ≤ n := by omega
  gi_wp2_with (gi_at_call 114; refine (callsIn_wide.2 T.out).mono ?_; rintro e W1 ⟨vt, rfl, ht, hb1⟩; obtain ⟨ao, cap, ht1, ht2, ht3, ht4⟩ := ht.view; rw [ht1] at ht ⊢)
  have i0 : Aside (∃ S, It 3 J W.heap.size S [] (turnP zs) [] (.slice ao (turnP zs).length cap) (.slice none 0 0) W1) := by
    have hz := hb1.size
    refine ⟨grow (fun _ => False) W W1, hz, HJ.out _ _ _ _ none H0.out ⟨hb1.os, hb1.tape, hb1.output, hb1.size, fun k hk _ => hb1.block k hk⟩ (fun r e => by cases e), ht, fun g hg => .inr ⟨(ht.own hg).1, (ht.own hg).2⟩, OwnI.nil, (fun g hg => by cases hg), (fun g _ e => by cases e)⟩
  have htl : (turnP zs).length ≤ 300 := by
    have h1 := turnP_len zs
    have h2 := HL.out
    omega
  obtain ⟨ts, hts⟩ : ∃ ts, turnP zs = ts := ⟨_, rfl⟩
  rw [hts] at i0 ht4 htl ⊢
  have HTS := Lib.hid hts
  obtain ⟨m, hm⟩ : ∃ m, ts.length = m := ⟨_, rfl⟩
  rw [hm] at i0 ht4 htl ⊢
  have HM := Lib.hid hm
  clear ht ht1 ht2 ht3 hb1 hts hm T
  gi_loopg [3, 13] m (fun gg s3 s13 wr => ∃ (k : Nat), k ≤ m ∧ m - k ≤ gg ∧ s13 = .int .i64 k ∧ Aside (∃ S, It 3 J W.heap.size S (pileP (ts.take k)).2 ts (pileP (ts.take k)).1 (.slice ao m cap) s3 wr))
  case atStart => exact ⟨0, Nat.zero_le _, by omega, rfl, i0⟩
  case round =>
    obtain ⟨k, hk, hg, rfl, hI⟩ := hrel
    by_cases hlt : k < m
    · have hltz : (k : Int) < (m : Int) := by omega
      obtain ⟨tg, toff, rfl⟩ := ht4 (by omega)
      obtain ⟨S, hi⟩ := hI.out
      have hkt : k < ts.length := by rw [HM.out]; exact hlt
      have ct := hi.t.cells k hkt
      have STP := Lib.hid (pileP_take ts k hkt)
      have hpl : (pileP (ts.take k)).1.length ≤ k := Nat.le_trans (pileP_len _) (List.length_take_le _ _)
      obtain ⟨y, hy⟩ : ∃ y, ts[k]! = y := ⟨_, rfl⟩
      rw [hy] at ct STP
      obtain ⟨pile0, hp0⟩ : ∃ p, (pileP (ts.take k)).1 = p := ⟨_, rfl⟩
      obtain ⟨out0, ho0⟩ : ∃ p, (pileP (ts.take k)).2 = p := ⟨_, rfl⟩
      have STP2 : Aside (pileP (ts.take (k + 1)) = shrink (pile0.length + 1) (pile0 ++ [y]) out0) := by
        rw [STP.out, ← hp0, ← ho0]; rfl
      rw [hp0, ho0] at hi
      rw [hp0] at hpl
      have lds : Loads (pile0 ++ [y]) := by
        intro x hx
        refine hl x (turnP_mem zs x ?_)
        rw [HTS.out]
        rcases List.mem_append.1 hx with h | h
        · rw [← hp0] at h; exact List.mem_of_mem_take (pileP_mem _ _ h)
        · rw [show x = y by simpa using h, ← hy]; exact get_mem _ _ hkt
      have LDS := Lib.hid lds
      have IT := Lib.hid hi
      have HYK := Lib.hid hy
      clear hI hi STP hy hp0 ho0 hkt lds
      obtain ⟨o1, o2, o3⟩ := app_pre (w := wr) (Below.refl _ wr) IT.out.low IT.out.p (Below.refl _ _) y 3
      obtain ⟨c0, hi0, hz0, hz1, hz2⟩ := info_parts info_i
      have hpl2 : pile0.length ≤ 1000000 := by omega
      have PRE : Aside (∀ w1 g2 o2 cap2, (wr.alloc (.cells #[.int .i64 y] 3)).grownBy w1 u3.ownBlock → OwnI 3 w1 W.heap.size (.slice (some ⟨g2, o2, none⟩) (pile0.length + 1) cap2) (pile0 ++ [y]) → (u3.ownBlock = some g2 ∨ (wr.alloc (.cells #[.int .i64 y] 3)).heap.size ≤ g2) →
          ∃ S, It 3 J W.heap.size S out0 ts (pile0 ++ [y]) (.slice (some ⟨tg, toff, none⟩) m cap) (.slice (some ⟨g2, o2, none⟩) (pile0.length + 1) cap2) w1) := by
        intro w1 g2 o2 cap2 G O A
        obtain ⟨S1, h1⟩ := IT.out.fresh HJ.out ((Below.refl wr.heap.size wr).alloc (Nat.le_refl _) (.cells #[.int .i64 y] 3))
        refine h1.turn HJ.out G O ?_
        rcases A with A | A
        · exact .inl A.symm
        · exact .inr fun g e => by cases e; exact A
      have O1 := Lib.hid o1
      have O2 := Lib.hid o2
      have O3 := Lib.hid o3
      have I0 := Lib.hid (And.intro hi0 (And.intro hz0 (And.intro hz1 hz2)))
      clear o1 o2 o3 hi0 hz0 hz1 hz2 IT
      gi_wp2_with (gi_at_builtin; refine wpListIn_append_I _ rfl _ _ 22 rfl c0 Tryd.underlying22 I0.out.1 I0.out.2.1 I0.out.2.2.1 I0.out.2.2.2 u3 pile0 rfl W.heap.size O1.out O2.out _ _ y rfl O3.out hpl2 ?_; intro g2 o2 cap2 w1 h1 h2 h3; have H1 := Lib.hid h1; have H2 := Lib.hid h2; have H3 := Lib.hid h3; clear h1 h2 h3)
      obtain ⟨R, hR⟩ : ∃ R, shrink (pile0.length + 1) (pile0 ++ [y]) out0 = R := ⟨_, rfl⟩
      have i1 : Aside (∃ (S : Nat → Prop) (pile : List Int) (out : List (Int × Int)) (f : Nat), pile.length = pile0.length + 1 ∧ It 3 J W.heap.size S out ts pile (.slice (some ⟨tg, toff, none⟩) m cap) (.slice (some ⟨g2, o2, none⟩) (pile0.length + 1) cap2) w1 ∧ shrink f pile out = R ∧ pile.length ≤ f ∧ Loads pile) := by
        obtain ⟨S1, h1⟩ := PRE.out w1 g2 o2 cap2 H2.out H1.out H3.out
        exact ⟨S1, pile0 ++ [y], out0, pile0.length + 1, by simp, h1, hR, by simp, LDS.out⟩
      rw [hR] at STP2
      clear hR PRE O1 O2 O3 H1 H2 H3
      obtain ⟨w2, rfl⟩ : ∃ w2, w2 = w1 := ⟨_, rfl⟩
      have hpz : (pile0.length : Int) + 1 ≤ 302 := by omega
      generalize hq0 : pile0.length = l0 at i1 hpz hpl hpl2 ⊢
      gi_loopg [3, 6] (l0 + 1) (fun gg s3 s6 wr => ∃ (q g o c : Nat), 0 < q ∧ q ≤ 302 ∧ q ≤ gg ∧ s3 = .slice (some ⟨g, o, none⟩) q c ∧ s6 = .int .i64 q ∧
        Aside (∃ (S : Nat → Prop) (pile : List Int) (out : List (Int × Int)) (f : Nat), pile.length = q ∧ It 3 J W.heap.size S out ts pile (.slice (some ⟨tg, toff, none⟩) m cap) (.slice (some ⟨g, o, none⟩) q c) wr ∧ shrink f pile out = R ∧ pile.length ≤ f ∧ Loads pile))
      case atStart => exact ⟨l0 + 1, g2, o2, cap2, by omega, by omega, by omega, rfl, by go_num, i1⟩
      case round =>
        obtain ⟨q, g, o, c, hq0, hq1, hqg, rfl, rfl, hI⟩ := hrel
        have hq0z : (0 : Int) ≤ (q : Int) := by omega
        have hq1z : (q : Int) ≤ 302 := by omega
        by_cases h3 : q < 3
        · have h3z : decide ((3 : Int) ≤ (q : Int)) = false := by simp; omega
          gi_wp2
          gi_roundg (m - (k + 1))
          case measure => omega
          case rel =>
            obtain ⟨S, pile, out, f, e, it, hs, hf, hld⟩ := hI.out
            have hR : R = (pile, out) := by rw [← hs]; exact shrink_end f pile out (by omega)
            exact ⟨k + 1, by omega, by omega, by go_num, ⟨S, by rw [STP2.out, hR]; exact it⟩⟩
        · obtain ⟨r, rfl⟩ : ∃ r, q = r + 3 := ⟨q - 3, by omega⟩
          obtain ⟨S, pile, out, f, e, it, hs, hf, hld⟩ := hI.out
          clear hI
          have h3z : decide ((3 : Int) ≤ ((r + 3 : Nat) : Int)) = true := by simp; omega
          obtain ⟨f, rfl⟩ : ∃ f', f = f' + 1 := ⟨f - 1, by omega⟩
          have c0 := it.p.cells r (by omega)
          have c1 := it.p.cells (r + 1) (by omega)
          have c2 := it.p.cells (r + 2) (by omega)
          have b0 := hld _ (get_mem pile r (by omega))
          have b1 := hld _ (get_mem pile (r + 1) (by omega))
          have b2 := hld _ (get_mem pile (r + 2) (by omega))
          have SS : Aside (dist pile[r + 2]! pile[r + 1]! < dist pile[r + 1]! pile[r]! → R = (pile, out)) := fun h => by rw [← hs]; exact shrink_stop (f + 1) r pile out e h
          have S1' : Aside (r = 0 → ¬ dist pile[r + 2]! pile[r + 1]! < dist pile[r + 1]! pile[r]! → R = shrink f (pile.drop 1) (out ++ [(dist pile[r + 1]! pile[r]!, 1)])) := fun h0 h => by subst h0; rw [← hs]; exact shrink_one f pile out e h
          have S2 : Aside (∀ t, r = t + 1 → ¬ dist pile[r + 2]! pile[r + 1]! < dist pile[r + 1]! pile[r]! → R = shrink f (pile.take (t + 1) ++ [pile[t + 3]!]) (out ++ [(dist pile[r + 1]! pile[r]!, 2)])) := fun t h0 h => by subst h0; rw [← hs]; exact shrink_two f t pile out e h
          have hd1 := dist_bd _ _ b2.1 b2.2 b1.1 b1.2
          have hd2 := dist_bd _ _ b1.1 b1.2 b0.1 b0.2
          have HE := Lib.hid (And.intro e (And.intro hf hld))
          have IT := Lib.hid it
          have hgl : g < wr.heap.size := (it.p.own rfl).2
          clear e hs hf hld it
          generalize pile[r]! = a0 at c0 b0 SS S1' S2 hd2
          generalize pile[r + 1]! = a1 at c1 b1 SS S1' S2 hd1 hd2
          generalize pile[r + 2]! = a2 at c2 b2 SS S1' S2 hd1
          obtain ⟨b01, b02⟩ := b0
          obtain ⟨b11, b12⟩ := b1
          obtain ⟨b21, b22⟩ := b2
          have hr0 : (0 : Int) ≤ (r : Int) := by omega
          have hr1 : (r : Int) + 3 ≤ 302 := by omega
          by_cases hxz : dist a2 a1 < dist a1 a0
          · have hR := SS.out hxz
            clear S1' S2 SS
            have hxb : decide (dist a2 a1 < dist a1 a0) = true := by simpa using hxz
            have HR := Lib.hid hR
            clear hR
            gi_upto_region 8 with (fail)
            gi_quiet ((gi_at_call 115; exact CallsIn.quiet_of_same (callsIn_wide.2 (amount_r _ _ _ (by omega) (by omega) (by omega) (by omega)))))
            refine world_gen (w := wr) (Q := fun W => Exit.then _ _ _ _ W) (fun W2 bW => ?_) _
            obtain ⟨S1, it1⟩ := IT.out.fresh HJ.out bW
            have IT1 := Lib.hid it1
            clear it1 bW c0 c1 c2
            gi_wp2
            gi_roundg (m - (k + 1))
            case measure => omega
            case rel => exact ⟨k + 1, by omega, by omega, by go_num, ⟨S1, by rw [STP2.out, HR.out]; exact IT1.out⟩⟩
          · have hxb : decide (dist a2 a1 < dist a1 a0) = false := by simpa using hxz
            obtain ⟨hcc, hcm⟩ := IT.out.p.caps
            rw [HE.out.1] at hcc
            gi_upto_region 8 with (fail)
            gi_quiet ((gi_at_call 115; exact CallsIn.quiet_of_same (callsIn_wide.2 (amount_r _ _ _ (by omega) (by omega) (by omega) (by omega)))))
            refine world_gen (w := wr) (Q := fun W => Exit.then _ _ _ _ W) (fun W2 bW => ?_) _
            obtain ⟨S1, it1⟩ := IT.out.fresh HJ.out bW
            clear bW c0 c1 c2
            rcases Nat.eq_zero_or_pos r with h0 | h0
            · have hR := S1'.out h0 hxz
              have hpre : out ++ [(dist a1 a0, 1)] <+: cycP zs := by
                have h1 := pileP_pre zs (k + 1)
                obtain ⟨mm, hm⟩ := shrink_pre f (pile.drop 1) (out ++ [(dist a1 a0, 1)])
                rw [HTS.out, STP2.out, hR, hm] at h1
                exact (List.prefix_append _ _).trans h1
              have HR := Lib.hid hR
              have HP := Lib.hid hpre
              clear S1' S2 SS hR hpre hxz
              subst h0
              obtain ⟨fn, tmps, assign, body, hy, hR2⟩ := HY.out S1 out (dist a1 a0, 1) W2 it1.j HP.out
              dsimp only at hy
              have IT1 := Lib.hid it1
              clear it1
              simp only [Nat.zero_add] at hcc IT1 HE ⊢
              gi_wp2
              refine hR2.mono ?_
              rintro e W3 ⟨rfl, hJ3, hk3, hb3⟩
              have it2 := IT1.out.told hJ3 hk3 hb3.size
              have IT2 := Lib.hid it2
              clear hJ3 hk3 hb3 it2 IT1 IT
              gi_wp2
              gi_roundg 2
              case measure => omega
              case rel =>
                have e := HE.out.1
                exact ⟨2, g, o + 1, c - 1, by omega, by omega, by omega, rfl, rfl, S1, pile.drop 1, _, f, by rw [List.length_drop, e], IT2.out.cut (IT2.out.p.drop 1 (by omega)) rfl, HR.out.symm, by rw [List.length_drop, e]; have := HE.out.2.1; omega, fun x hx => HE.out.2.2 x (List.mem_of_mem_drop hx)⟩
            · obtain ⟨t, rfl⟩ : ∃ t, r = t + 1 := ⟨r - 1, by omega⟩
              have hR := S2.out t rfl hxz
              have hpre : out ++ [(dist a1 a0, 2)] <+: cycP zs := by
                have h1 := pileP_pre zs (k + 1)
                obtain ⟨mm, hm⟩ := shrink_pre f (pile.take (t + 1) ++ [pile[t + 3]!]) (out ++ [(dist a1 a0, 2)])
                rw [HTS.out, STP2.out, hR, hm] at h1
                exact (List.prefix_append _ _).trans h1
              have HR := Lib.hid hR
              have HP := Lib.hid hpre
              clear S1' S2 SS hR hpre hxz
              obtain ⟨fn, tmps, assign, body, hy, hR2⟩ := HY.out S1 out (dist a1 a0, 2) W2 it1.j HP.out
              dsimp only at hy
              have IT1 := Lib.hid it1
              clear it1
              have hn3 : (((t + 1 + 3 : Nat) : Int) == 3) = false := by simp; omega
              gi_wp2
              refine hR2.mono ?_
              rintro e W3 ⟨rfl, hJ3, hk3, hb3⟩
              have it2 := IT1.out.told hJ3 hk3 hb3.size
              have IT2 := Lib.hid it2
              clear hJ3 hk3 hb3 it2 IT1 IT
              gi_wp2_with (gi_at_call 116; refine (callsIn_wide.2 (delete_q IT2.out.p t (by have := HE.out.1; omega) _ _ (by omega) (by omega))).mono ?_; rintro e W4 ⟨rfl, hO, hG⟩; obtain ⟨S2, it4⟩ := IT2.out.turn HJ.out hG hO (.inl rfl); have IT4 := Lib.hid it4; clear hO hG it4)
              gi_roundg (t + 2)
              case measure => omega
              case rel =>
                have e := HE.out.1
                refine ⟨t + 2, g, o, c, by omega, by omega, by omega, rfl, by go_num, S2, _, _, f, ?_, IT4.out, HR.out.symm, ?_, fun x hx => ?_⟩
                · simp; omega
                · have := HE.out.2.1; simp; omega
                · rcases List.mem_append.1 hx with h | h
                  · exact HE.out.2.2 x (List.mem_of_mem_take h)
                  · rw [show x = pile[t + 3]! by simpa using h]; exact HE.out.2.2 _ (get_mem _ _ (by omega))
    · have hltz : ¬ (k : Int) < (m : Int) := by omega
      have hkm : k = m := by omega
      subst hkm
      obtain ⟨S, it⟩ := hI.out
      obtain ⟨v3, c3, e3, _, _, hv3⟩ := it.p.view
      have hpl : (pileP (ts.take k)).1.length ≤ k := Nat.le_trans (pileP_len _) (List.length_take_le _ _)
      have hall : ts.take k = ts := List.take_of_length_le (by rw [HM.out]; exact Nat.le_refl _)
      rw [hall] at it hpl e3 hv3
      have hcyc : cycP zs = (pileP ts).2 ++ restP (pileP ts).1 := by unfold cycP; rw [HTS.out]
      have hld : Loads (pileP ts).1 := fun x hx => hl x (turnP_mem zs x (by rw [HTS.out]; exact pileP_mem _ _ hx))
      obtain ⟨pile, hp⟩ : ∃ p, (pileP ts).1 = p := ⟨_, rfl⟩
      obtain ⟨out, ho⟩ : ∃ p, (pileP ts).2 = p := ⟨_, rfl⟩
      rw [hp] at it hcyc hld hpl e3 hv3
      rw [ho] at it hcyc
      obtain ⟨np, hnp⟩ : ∃ np, pile.length = np := ⟨_, rfl⟩
      rw [hnp] at e3 hpl hv3
      subst e3
      have IT := Lib.hid it
      have HC := Lib.hid hcyc
      have HLD := Lib.hid hld
      have HNP := Lib.hid hnp
      clear hI it hcyc hld hnp hall hp ho
      have hnp1 : (np : Int) ≤ 300 := by omega
      gi_wp2
      obtain ⟨w2, rfl⟩ : ∃ w2, w2 = wr := ⟨_, rfl⟩
      gi_loopg [73] np (fun gg s73 wr => ∃ (j : Nat), j ≤ np ∧ np - j ≤ gg ∧ s73 = .int .i64 j ∧ Aside (∃ S, It 3 J W.heap.size S (out ++ restUp pile j) ts pile (.slice ao k cap) (.slice v3 np c3) wr))
      case atStart => exact ⟨0, Nat.zero_le _, by omega, rfl, ⟨S, by rw [restUp_zero, List.append_nil]; exact IT.out⟩⟩
      case round =>
        obtain ⟨j, hj, hjg, rfl, hI⟩ := hrel
        by_cases hjn : j < np
        · have hjz : (j : Int) < (np : Int) := by omega
          obtain ⟨S1, it⟩ := hI.out
          clear hI
          obtain ⟨g, o, rfl⟩ := hv3 (by omega)
          rcases Nat.eq_zero_or_pos j with h0 | h0
          · have hj0 : ¬ 0 < j := by omega
            have hj1 : decide (0 < j) = false := by simp; omega
            have HJ0 := Lib.hid h0
            have IT1 := Lib.hid it
            clear it h0
            gi_upto_region 19 with (fail)
            refine wpIn_region_quiet_lit rfl (by kernel_rfl) (by kernel_rfl) ?_
            repeat (gi_big_quiet_step (fail))
            refine BigFrame.wpQuietIn_skip (fun _ _ _ _ => trivial) rfl ?_
            go_simp
            repeat (gi_big_quiet_step (fail))
            refine wpQuietIn_nil ?_
            intro nq
            refine world_gen (w := wr) (fun W2 bW => ?_) nq
            rename_i KK hKK
            refine hKK _ _ ?_
            clear hKK KK
            obtain ⟨S2, it2⟩ := IT1.out.fresh HJ.out bW
            have IT2 := Lib.hid it2
            clear it2 bW
            gi_wp2
            gi_roundg (np - (j + 1))
            case measure => omega
            case rel => exact ⟨j + 1, by omega, by omega, by go_num, ⟨S2, by have h := IT2.out; rw [HJ0.out] at h ⊢; exact h⟩⟩
          · obtain ⟨i, rfl⟩ : ∃ i, j = i + 1 := ⟨j - 1, by omega⟩
            have ct := it.p.cells i (by rw [HNP.out]; omega)
            have ct1 := it.p.cells (i + 1) (by rw [HNP.out]; omega)
            obtain ⟨b01, b02⟩ := HLD.out _ (get_mem pile i (by rw [HNP.out]; omega))
            obtain ⟨b11, b12⟩ := HLD.out _ (get_mem pile (i + 1) (by rw [HNP.out]; omega))
            have hpre : (out ++ restUp pile (i + 1)) ++ [(dist pile[i + 1]! pile[i]!, 1)] <+: cycP zs := by
              rw [HC.out, List.append_assoc]
              exact (List.prefix_append_right_inj _).2 (restUp_pre pile i (by rw [HNP.out]; exact hjn))
            have hup : Aside (restUp pile (i + 1 + 1) = restUp pile (i + 1) ++ [(dist pile[i + 1]! pile[i]!, 1)]) := restUp_succ pile i
            have HP := Lib.hid hpre
            clear hpre
            generalize pile[i]! = a0 at ct b01 b02 HP hup
            generalize pile[i + 1]! = a1 at ct1 b11 b12 HP hup
            have hi0 : (0 : Int) ≤ (i : Int) := by omega
            have hi1 : (i : Int) + 1 < (np : Int) := by omega
            have hji : decide ((0 : Int) < ((i + 1 : Nat) : Int)) = true := by simp
            have IT1 := Lib.hid it
            clear it
            gi_upto_region 19 with (fail)
            refine wpIn_region_head 14 rfl (by kernel_rfl) (by kernel_rfl) (by kernel_rfl) (by decide) ?_
            simp only [List.take_succ_cons, List.take_zero]
            repeat (gi_big_quiet_step ((gi_at_call 115; exact CallsIn.quiet_of_same (callsIn_wide.2 (amount_r _ _ _ (by omega) (by omega) (by omega) (by omega))))))
            refine wpQuietIn_nil ?_
            intro _ hw'
            obtain ⟨nq, rfl⟩ := hw'
            refine world_gen (w := wr) (Q := fun W => wpAnyIn _ _ _ _ _ _ _ _ _ W) (fun W2 bW => ?_) _
            obtain ⟨S2, it2⟩ := IT1.out.fresh HJ.out bW
            obtain ⟨fn, tmps, assign, body, hy, hR2⟩ := HY.out S2 (out ++ restUp pile (i + 1)) (dist a1 a0, 1) W2 it2.j HP.out
            dsimp only at hy
            have IT2 := Lib.hid it2
            clear it2 bW ct ct1
            refine wpAnyIn_one (e := 14) (by kernel_rfl) rfl rfl (fun K hK => ?_)
            go_simp
            refine hR2.mono ?_
            rintro e W3 ⟨rfl, hJ3, hk3, hb3⟩
            have it3 := IT2.out.told hJ3 hk3 hb3.size
            have IT3 := Lib.hid it3
            clear hJ3 hk3 hb3 it3 IT2 IT1 hy hR2
            refine hK _ _ ?_
            clear hK K
            refine wpAnyIn_one (e := 15) (by kernel_rfl) rfl rfl (fun K hK => ?_)
            go_simp
            refine hK _ _ ?_
            clear hK K
            refine wpAnyIn_one (e := 16) (by kernel_rfl) rfl rfl (fun K hK => ?_)
            go_simp
            refine hK _ _ ?_
            clear hK K
            refine wpAnyIn_done (by kernel_rfl) ?_ _
            gi_wp2
            gi_roundg (np - (i + 1 + 1))
            case measure => omega
            case rel => exact ⟨i + 1 + 1, by omega, by omega, by go_num, ⟨S2, by rw [hup.out, ← List.append_assoc]; exact IT3.out⟩⟩
        · have hjz : ¬ (j : Int) < (np : Int) := by omega
          have hje : j = np := by omega
          subst hje
          gi_wp2
          go_end0
          obtain ⟨S1, it⟩ := hI.out
          refine ⟨⟨_, rfl⟩, S1, ?_⟩
          have h := it.j
          rw [← HNP.out, restUp_all, ← HC.out] at h
          exact h
end Go.Proofs.YtchnhjffpldpiaaDoor
