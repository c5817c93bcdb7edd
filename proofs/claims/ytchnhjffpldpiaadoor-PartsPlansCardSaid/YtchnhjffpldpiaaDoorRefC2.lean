/- swashplateref09.Cycles -/
import Derived.Test.YtchnhjffpldpiaaDoorRefC1
import Derived.Test.YtchnhjffpldpiaaDoorAppN
import Derived.Test.YtchnhjffpldpiaaDoorMF
import Derived.Deep.AppendLies
import Derived.StillTailTactics
namespace Go.Proofs.YtchnhjffpldpiaaDoor
open Go Go.RowKit

/-- The list of cycles and the pile, each in a block of its own. -/
structure OP (w : World) (B : Nat) (v5 v6 : Value) (out : List (Int × Int)) (pile : List Int) : Prop where
  o : w.ownsRow B 30 2 v5 out.length (out.flatMap encPair)
  p : OwnI 3 w B v6 pile
  apart : ∀ g, v5.ownBlock = some g → v6.ownBlock ≠ some g
variable {w W w1 w' : World} {B : Nat} {v5 v6 v5' v6' : Value} {out out' : List (Int × Int)} {pile pile' : List Int}
theorem grown_of (hb : Below w.heap.size w W) : w.grownBy W none := ⟨hb.os, hb.tape, hb.output, hb.size, fun k hk _ => hb.block k hk⟩
theorem OP.nil : OP w B (.slice none 0 0) (.slice none 0 0) [] [] := ⟨World.ownsRow_nil _ _ _ _, OwnI.nil, fun _ h => by cases h⟩
theorem row_some {e : TypeId} {size n : Nat} {v : Value} {xs : List Value} (h : v.ownBlock = none ∨ ∃ g, v.ownBlock = some g) : w.ownsRow B e size v n xs → w.grownBy W none → W.ownsRow B e size v n xs := fun h1 h2 =>
  h1.kept h2 (by rcases h with h | ⟨g, h⟩; exact .inl h; exact .inr (by rw [h]; intro e; cases e))
theorem opt_cases (v : Value) : v.ownBlock = none ∨ ∃ g, v.ownBlock = some g := by
  cases h : v.ownBlock with
  | none => exact .inl rfl
  | some g => exact .inr ⟨g, rfl⟩
theorem OP.below (h : OP w B v5 v6 out pile) (hb : Below w.heap.size w W) : OP W B v5 v6 out pile :=
  ⟨row_some (opt_cases v5) h.o (grown_of hb), h.p.below hb, h.apart⟩
/-- The pile takes another form, in its own block or a new one. -/
theorem OP.heap (h : OP w B v5 v6 out pile) (G : w.grownBy w1 v6.ownBlock) (O : OwnI 3 w1 B v6' pile') (hv : ∀ g, v6'.ownBlock = some g → v6.ownBlock = some g ∨ w.heap.size ≤ g) : OP w1 B v5 v6' out pile' := by
  refine ⟨h.o.kept G ?_, O, fun g h1 h2 => ?_⟩
  · rcases opt_cases v5 with e | ⟨g, e⟩
    · exact .inl e
    · exact .inr (by rw [e]; exact fun e2 => h.apart g e e2.symm)
  · rcases hv g h2 with h3 | h3
    · exact h.apart g h1 h3
    · have := (h.o.lt g h1).2; omega
theorem OP.pileNew (h : OP w B v5 v6 out pile) (G : w.grownBy w1 none) (O : OwnI 3 w1 B v6' pile') (hv : ∀ g, v6'.ownBlock = some g → w.heap.size ≤ g) : OP w1 B v5 v6' out pile' := by
  refine ⟨row_some (opt_cases v5) h.o G, O, fun g h1 h2 => ?_⟩
  have := hv g h2
  have := (h.o.lt g h1).2; omega
/-- A cycle more. -/
theorem OP.yield (h : OP w B v5 v6 out pile) (G : w.grownBy w1 v5.ownBlock) (O : w1.ownsRow B 30 2 v5' out'.length (out'.flatMap encPair)) (hv : ∀ g, v5'.ownBlock = some g → v5.ownBlock = some g ∨ w.heap.size ≤ g) : OP w1 B v5' v6 out' pile := by
  refine ⟨O, h.p.kept fun k hk => G.block k (h.p.own hk).2 (fun e => h.apart k e.symm hk), fun g h1 h2 => ?_⟩
  rcases hv g h1 with h3 | h3
  · exact h.apart g h3 h2
  · have := (h.p.own h2).2; omega
theorem OP.keep5 (h : OP w B v5 v6 out pile) {w0 : World} (hb : Below B w0 w) (hB : B ≤ w.heap.size) (G : w.grownBy w1 v5.ownBlock) : Below B w0 w1 := hb.grown G hB fun _ hk => (h.o.lt _ hk).1
theorem OP.keep6 (h : OP w B v5 v6 out pile) {w0 : World} (hb : Below B w0 w) (hB : B ≤ w.heap.size) (G : w.grownBy w1 v6.ownBlock) : Below B w0 w1 := hb.grown G hB fun _ hk => (h.p.own hk).1

theorem OP.yield1 (h : OP w B v5 v6 out pile) {o : Obj} (G : (w.alloc o).grownBy w1 v5.ownBlock) {g cap : Nat} {x : Int × Int} (O : w1.ownsRow B 30 2 (.slice (some ⟨g, 0, none⟩) (out.length + 1) cap) (out.length + 1) (out.flatMap encPair ++ encPair x)) (hg : v5.ownBlock = some g ∨ g = (w.alloc o).heap.size) :
    OP w1 B (.slice (some ⟨g, 0, none⟩) (out.length + 1) cap) v6 (out ++ [x]) pile := by
  refine (h.below ((Below.refl _ _).alloc (Nat.le_refl _) o)).yield G (by simpa using O) fun k e => ?_
  cases e
  rcases hg with hg | hg
  · exact .inl hg
  · exact .inr (Nat.le_of_eq hg.symm)
theorem own_two (E : TypeId) (W : World) {B : Nat} (hB : B ≤ W.heap.size) (a b : Int) : OwnI E (W.alloc (.cells #[.int .i64 a, .int .i64 b] E)) B (.slice (some ⟨W.heap.size, 0, none⟩) 2 2) [a, b] := by
  refine .inr ⟨W.heap.size, 0, 2, [.int .i64 a, .int .i64 b], rfl, hB, heap_alloc_new W _, by simp, by simp, by simp, by simp [maxLen], fun j hj => ?_⟩
  match j, hj with
  | 0, _ => rfl
  | 1, _ => rfl
theorem box_kept {X : World} {b : Nat} {y : Int} {E : TypeId} {f : Nat × Nat} (G : X.grownBy w1 none) (hX : X.heap[b]? = some (.cells #[.int .i64 y] E f)) : w1.cell? ⟨b, 0, none⟩ = some (.int .i64 y) := by
  have h := (G.block b (Array.getElem?_eq_some_iff.1 hX).1 (fun e => by cases e)).trans hX
  simp [World.cell?, h]
theorem rest_len (pile : List Int) : (restP pile).length = pile.length - 1 := by unfold restP; rw [List.length_map, List.length_range]
theorem rest_take (pile : List Int) (i : Nat) (h : i + 1 < pile.length) : (restP pile).take (i + 1) = (restP pile).take i ++ [(dist pile[i + 1]! pile[i]!, 1)] := by
  have hl : i < (restP pile).length := by rw [rest_len]; omega
  have e : (restP pile)[i] = (dist pile[i + 1]! pile[i]!, 1) := by simp [restP]
  rw [take_snoc (restP pile) i hl, getElem!_pos (restP pile) i hl, e]
theorem out_le {f : Nat} {pile : List Int} {out : List (Int × Int)} {R : List Int × List (Int × Int)} {N : Nat} (h : shrink f pile out = R) (hR : R.2.length ≤ N) : out.length ≤ N := by
  obtain ⟨m, e⟩ := shrink_pre f pile out
  rw [h] at e
  rw [e, List.length_append] at hR
  omega
theorem pile_out_le (zs : List Int) (k : Nat) : (pileP ((turnP zs).take k)).2.length ≤ zs.length := Nat.le_trans (pileP_pre zs k).length_le (cycP_len zs)

set_option maxRecDepth 100000 in
set_option maxHeartbeats 4000000 in
theorem refCycles_ok (zs : List Int) (a : Option Addr) (n c : Nat) (w : World) (B : Nat) (hB : B ≤ w.heap.size) (hR : Rd encInt 1 w B a n zs) (he : seriesE zs = 0) :
    Calls Tryd.prog 42 #[.slice a n c] w fun e w' => ∃ v, e = .returned (.tuple #[v, .int .i64 0]) ∧ w'.ownsRow w.heap.size 30 2 v (cycP zs).length ((cycP zs).flatMap encPair) ∧ Below w.heap.size w w' := by
  obtain ⟨hlen, hld⟩ := loads_of he
  have hn := hR.len
  have SE := Lib.hid (show Calls Tryd.prog 85 #[.slice a n c] w fun e w' => e = .returned (.int .i64 0) ∧ w = w' by
    have := refSeries_any zs a n c w B hR
    rwa [he] at this)
  have RT := Lib.hid (refTurning_any zs a n c w B hB hR (by omega))
  have LN := Lib.hid hlen
  have LD := Lib.hid hld
  obtain ⟨i0, hi, hz0, hz1, hz2⟩ := info_parts info_i
  have I0 := Lib.hid (And.intro hi (And.intro hz0 (And.intro hz1 hz2)))
  clear hi hz0 hz1 hz2
  obtain ⟨i2, hi, hz0, hz1, hz2⟩ := info_parts info_pr
  have I2 := Lib.hid (And.intro hi (And.intro hz0 (And.intro hz1 hz2)))
  clear hi hz0 hz1 hz2 hlen hld hn he hR hB
  go_enter Tryd.func42, Tryd.ntmps42
  go_wp2_with (first
    | (go_at_call 85; refine SE.out.mono ?_; rintro e w1 ⟨rfl, rfl⟩)
    | (go_at_call 20; refine RT.out.mono ?_; rintro e w1 ⟨v, rfl, ht, hb1⟩; have HT := Lib.hid ht; have HB1 := Lib.hid hb1; obtain ⟨ta, tc, htv, _⟩ := ht.view; rw [htv]; have HTV := Lib.hid htv; clear ht hb1 htv))
  obtain ⟨ts, hts⟩ : ∃ ts, turnP zs = ts := ⟨_, rfl⟩
  obtain ⟨m, hm⟩ : ∃ m, ts.length = m := ⟨_, rfl⟩
  have htl : m ≤ 300 := by
    have h1 := turnP_len zs
    have h2 := LN.out
    rw [hts, hm] at h1
    omega
  rw [HTV.out, hts, hm] at HT
  rw [hts, hm]
  have HTS := Lib.hid hts
  have HM := Lib.hid hm
  clear hts hm HTV SE RT
  go_loopg [5, 6, 8] m (fun gg s5 s6 s8 wr => ∃ k : Nat, k ≤ m ∧ m - k ≤ gg ∧ s8 = .int .i64 k ∧ Aside (Below w1.heap.size w1 wr) ∧ Aside (OP wr w1.heap.size s5 s6 (pileP (ts.take k)).2 (pileP (ts.take k)).1))
  case atStart => exact ⟨0, Nat.zero_le _, by omega, rfl, Below.refl _ _, OP.nil⟩
  case round =>
    obtain ⟨k, hk, hg, rfl, BW, PW⟩ := hrel
    by_cases hlt : k < m
    · have hltz : (k : Int) < (m : Int) := by omega
      obtain ⟨tg, toff, tcap, e, _, _, _, hgl, hcell⟩ := HT.out.form (by intro e; have := HM.out; rw [e] at this; simp at this; omega)
      rw [HM.out] at e hcell
      cases e
      have ct : wr.cell? ⟨tg, toff + k, none⟩ = some (.int .i64 ts[k]!) := (BW.out.cell (p := ⟨tg, toff + k, none⟩) hgl).trans (hcell k hlt).1
      have hkt : k < ts.length := by rw [HM.out]; exact hlt
      have STP := pileP_take ts k hkt
      have hpl : (pileP (ts.take k)).1.length ≤ k := Nat.le_trans (pileP_len _) (List.length_take_le _ _)
      have RL := Lib.hid (show (pileP (ts.take (k + 1))).2.length ≤ 300 by rw [← HTS.out]; exact Nat.le_trans (pile_out_le zs (k + 1)) LN.out)
      obtain ⟨y, hy⟩ : ∃ y, ts[k]! = y := ⟨_, rfl⟩
      rw [hy] at ct STP
      have ly := LD.out _ (turnP_mem zs y (by rw [HTS.out, ← hy]; exact get_mem ts k hkt))
      have lds : Loads ((pileP (ts.take k)).1 ++ [y]) := by
        intro x hx
        rcases List.mem_append.1 hx with h | h
        · exact LD.out x (turnP_mem zs x (by rw [HTS.out]; exact List.mem_of_mem_take (pileP_mem _ _ h)))
        · rw [show x = y by simpa using h]; exact ly
      have STP2 : Aside (pileP (ts.take (k + 1)) = shrink ((pileP (ts.take k)).1.length + 1) ((pileP (ts.take k)).1 ++ [y]) (pileP (ts.take k)).2) := by
        rw [STP]; rfl
      obtain ⟨pile0, hp0⟩ : ∃ p, (pileP (ts.take k)).1 = p := ⟨_, rfl⟩
      obtain ⟨out0, ho0⟩ : ∃ p, (pileP (ts.take k)).2 = p := ⟨_, rfl⟩
      rw [hp0] at hpl lds PW STP2
      rw [ho0] at PW STP2
      have LDS := Lib.hid lds
      clear hcell hkt STP hy ly lds hp0 ho0
      obtain ⟨o1, o2, o3⟩ := app_pre BW.out (Nat.le_refl _) PW.out.p (Below.refl _ _) y 3
      have O1 := Lib.hid o1
      have O2 := Lib.hid o2
      have O3 := Lib.hid o3
      clear o1 o2 o3
      have hpl2 : pile0.length ≤ 1000000 := by omega
      go_wp2_with (at_builtin; refine wpList_append_I _ rfl _ _ 22 rfl i0 Tryd.underlying22 I0.out.1 I0.out.2.1 I0.out.2.2.1 I0.out.2.2.2 u6 pile0 rfl w1.heap.size O1.out O2.out _ _ y rfl O3.out hpl2 ?_; intro g2 p2 cap2 w3 h1 h2 h3; have H1 := Lib.hid h1; have H2 := Lib.hid h2; have H3 := Lib.hid h3; clear h1 h2 h3)
      obtain ⟨R, hR⟩ : ∃ R, shrink (pile0.length + 1) (pile0 ++ [y]) out0 = R := ⟨_, rfl⟩
      have hb3 : Below w1.heap.size w1 w3 := app_post BW.out (Nat.le_refl _) PW.out.p (Below.refl _ _) H2.out
      have P1 := PW.out.below ((Below.refl wr.heap.size wr).alloc (Nat.le_refl _) (.cells #[.int .i64 y] 3))
      have i1 : Aside (∃ (pile : List Int) (out : List (Int × Int)) (f : Nat), pile.length = pile0.length + 1 ∧ OP w3 w1.heap.size u5 (.slice (some ⟨g2, p2, none⟩) (pile0.length + 1) cap2) out pile ∧ shrink f pile out = R ∧ pile.length ≤ f ∧ Loads pile) :=
        ⟨pile0 ++ [y], out0, pile0.length + 1, by simp, P1.heap H2.out H1.out (fun g e => by cases e; exact H3.out), hR, by simp, LDS.out⟩
      have HB3 := Lib.hid hb3
      rw [hR] at STP2
      rw [STP2.out] at RL
      clear hR hb3 P1 O1 O2 O3 H1 H2 H3 PW BW LDS
      generalize pile0.length = l0 at i1 hpl hpl2 ⊢
      go_loopg [5, 6] (l0 + 1) (fun gg s5 s6 wr => ∃ (q g o c : Nat), 0 < q ∧ q ≤ 302 ∧ q ≤ gg ∧ s6 = .slice (some ⟨g, o, none⟩) q c ∧ Aside (Below w1.heap.size w1 wr) ∧
        Aside (∃ (pile : List Int) (out : List (Int × Int)) (f : Nat), pile.length = q ∧ OP wr w1.heap.size s5 (.slice (some ⟨g, o, none⟩) q c) out pile ∧ shrink f pile out = R ∧ pile.length ≤ f ∧ Loads pile))
      case atStart => exact ⟨l0 + 1, g2, p2, cap2, by omega, by omega, by omega, rfl, HB3.out, i1⟩
      case round =>
        obtain ⟨q, g, o, c, hq0, hq1, hqg, rfl, BW, hI⟩ := hrel
        obtain ⟨pile, out, f, e, it, hs, hf, hld⟩ := hI.out
        clear hI
        have hq0z : (0 : Int) ≤ (q : Int) := by omega
        have hq1z : (q : Int) ≤ 302 := by omega
        by_cases h3 : q < 3
        · have h3z : decide ((3 : Int) ≤ (q : Int)) = false := by simp; omega
          have hR : R = (pile, out) := by rw [← hs]; exact shrink_end f pile out (by omega)
          have HR := Lib.hid hR
          have IT := Lib.hid it
          clear hR it hs e hf hld
          go_wp2
          go_roundg (m - (k + 1))
          case measure => omega
          case rel => exact ⟨k + 1, by omega, by omega, by go_num, BW, by rw [STP2.out, HR.out]; exact IT.out⟩
        · obtain ⟨r, rfl⟩ : ∃ r, q = r + 3 := ⟨q - 3, by omega⟩
          have h3z : decide ((3 : Int) ≤ ((r + 3 : Nat) : Int)) = true := by simp; omega
          obtain ⟨f, rfl⟩ : ∃ f', f = f' + 1 := ⟨f - 1, by omega⟩
          have c0 := it.p.cells r (by omega)
          have c1 := it.p.cells (r + 1) (by omega)
          have c2 := it.p.cells (r + 2) (by omega)
          have b0 := hld _ (get_mem pile r (by omega))
          have b1 := hld _ (get_mem pile (r + 1) (by omega))
          have b2 := hld _ (get_mem pile (r + 2) (by omega))
          have SS : Aside (dist pile[r + 2]! pile[r + 1]! < dist pile[r + 1]! pile[r]! → R = (pile, out)) := fun h => by rw [← hs]; exact shrink_stop (f + 1) r pile out e h
          have S1' : Aside (r = 0 → ¬ dist pile[r + 2]! pile[r + 1]! < dist pile[r + 1]! pile[r]! → R = shrink f (pile.drop 1) (out ++ [(dist pile[r + 1]! pile[r]!, 1)])) := fun h0 h => by subst h0; rw [← hs]; exact shrink_one f pile out e h
          have S2 : Aside (∀ t, r = t + 1 → ¬ dist pile[r + 2]! pile[r + 1]! < dist pile[r + 1]! pile[r]! → R = shrink f (pile.take (t + 1) ++ [pile[t + 3]!]) (out ++ [(dist pile[r + 1]! pile[r]!, 2)])) := fun t h0 h => by subst h0; rw [← hs]; exact shrink_two f t pile out e h
          have hd1 := dist_bd _ _ b2.1 b2.2 b1.1 b1.2
          have hd2 := dist_bd _ _ b1.1 b1.2 b0.1 b0.2
          have PD : Aside (r = 0 → pile.drop 1 = [pile[r + 1]!, pile[r + 2]!]) := fun h => by
            subst h
            match pile, e with
            | [_, _, _], _ => rfl
          have PL : Aside (pile[r + 2]! = pile[r + 2]!) := rfl
          have HE := Lib.hid (And.intro e (And.intro hf hld))
          have hol := Lib.hid (out_le hs RL.out)
          have hgl : g < wr.heap.size := (it.p.own rfl).2
          obtain ⟨hcc, hcm⟩ := it.p.caps
          rw [e] at hcc
          have IT := Lib.hid it
          clear e hs hf hld it PL
          obtain ⟨a0, ha0⟩ : ∃ x, pile[r]! = x := ⟨_, rfl⟩
          obtain ⟨a1, ha1⟩ : ∃ x, pile[r + 1]! = x := ⟨_, rfl⟩
          obtain ⟨a2, ha2⟩ : ∃ x, pile[r + 2]! = x := ⟨_, rfl⟩
          rw [ha0] at c0 b0 SS S1' S2 hd2
          rw [ha1] at c1 b1 SS S1' S2 hd1 hd2 PD
          rw [ha2] at c2 b2 SS S1' S2 hd1 PD
          have HA := Lib.hid (And.intro ha1 ha2)
          clear ha0 ha1 ha2
          obtain ⟨b01, b02⟩ := b0
          obtain ⟨b11, b12⟩ := b1
          obtain ⟨b21, b22⟩ := b2
          have hr0 : (0 : Int) ≤ (r : Int) := by omega
          have hr1 : (r : Int) + 3 ≤ 302 := by omega
          by_cases hxz : dist a2 a1 < dist a1 a0
          · have HR := Lib.hid (SS.out hxz)
            clear S1' S2 SS PD
            have hxb : decide (dist a2 a1 < dist a1 a0) = true := by simpa using hxz
            go_upto_region 13 with (fail)
            go_quiet ((go_at_call 86; exact Calls.quiet_of_same ((refDistance_any _ _ _ (by omega) (by omega) (by omega) (by omega)).mono fun _ _ h => ⟨h.1, h.2.symm⟩)))
            refine world_gen (w := wr) (Q := fun W => Exit.then _ _ _ _ W) (fun W2 bW => ?_) _
            have bW2 := Lib.hid bW
            clear bW c0 c1 c2
            go_wp2
            go_roundg (m - (k + 1))
            case measure => omega
            case rel => exact ⟨k + 1, by omega, by omega, by go_num, BW.out.trans (bW2.out.mono BW.out.size), by rw [STP2.out, HR.out]; exact IT.out.below bW2.out⟩
          · have hxb : decide (dist a2 a1 < dist a1 a0) = false := by simpa using hxz
            go_upto_region 13 with (fail)
            go_quiet ((go_at_call 86; exact Calls.quiet_of_same ((refDistance_any _ _ _ (by omega) (by omega) (by omega) (by omega)).mono fun _ _ h => ⟨h.1, h.2.symm⟩)))
            refine world_gen (w := wr) (Q := fun W => Exit.then _ _ _ _ W) (fun W2 bW => ?_) _
            have P2 := Lib.hid (IT.out.below bW)
            have BW2 := Lib.hid (BW.out.trans (bW.mono BW.out.size))
            clear bW c0 c1 c2 IT BW SS
            rcases Nat.eq_zero_or_pos r with h0 | h0
            · have HR := Lib.hid (S1'.out h0 hxz)
              have HP := Lib.hid (PD.out h0)
              clear S1' S2 PD hxz
              subst h0
              go_wp2_with (at_builtin; refine wpList_append_lies _ rfl _ _ 26 rfl w1.heap.size 30 i2 (.agg #[.int .i64 0, .int .i64 0]) 2 16 Tryd.underlying26 I2.out.1 I2.out.2.1 I2.out.2.2.1 I2.out.2.2.2 rfl (by decide) u5 out.length _ rfl (row_some (opt_cases u5) P2.out.o (grown_of ((Below.refl _ _).alloc (Nat.le_refl _) _))) ⟨W2.heap.size, 0, none⟩ 1 1 (encPair (dist a1 a0, 1)) rfl rfl (news_pair W2 (dist a1 a0, 1) _) (by simp [encPair, Value.oneCell']) (by decide) (by have := hol.out; simp only [maxLen]; omega) (by have := hol.out; omega) (Nat.le_trans BW2.out.size (by rw [World.size_alloc]; omega)) _ rfl ?_; intro g4 cap4 w4 h1 h2 h3 _; have P4 := Lib.hid (P2.out.yield1 h2 h1 h3); have BW4 := Lib.hid ((BW2.out.alloc BW2.out.size _).grown h2 (Nat.le_trans BW2.out.size (by rw [World.size_alloc]; omega)) (fun k e => (P2.out.o.lt k e).1)); clear h1 h2 h3)
              have c1 := P4.out.p.cells 1 (by rw [HE.out.1]; omega)
              have c2 := P4.out.p.cells 2 (by rw [HE.out.1]; omega)
              have ea := HA.out
              simp only [Nat.zero_add] at ea
              rw [ea.1] at c1
              rw [ea.2] at c2
              clear ea
              go_still_tail 6, (by kernel_rfl)
              change wpList _ _ _ _ _ w4.drew
              go_wp2
              go_roundg 2
              case measure => omega
              case rel =>
                refine ⟨2, w4.heap.size, 0, 2, by omega, by omega, by omega, rfl, (BW4.out.alloc BW4.out.size _).drew, pile.drop 1, _, f, by rw [List.length_drop, HE.out.1], ?_, HR.out.symm, by rw [List.length_drop]; have := HE.out.1; have := HE.out.2.1; omega, fun x hx => HE.out.2.2 x (List.mem_of_mem_drop hx)⟩
                refine P4.out.pileNew (grown_of ((Below.refl _ _).alloc (Nat.le_refl _) _).drew) ?_ (fun g e => by cases e; exact Nat.le_refl _)
                rw [HP.out]
                exact own_two 3 w4.drew BW4.out.size a1 a2
            · obtain ⟨t, rfl⟩ : ∃ t, r = t + 1 := ⟨r - 1, by omega⟩
              have HR := Lib.hid (S2.out t rfl hxz)
              clear S1' S2 PD hxz h0
              go_wp2_with (at_builtin; refine wpList_append_lies _ rfl _ _ 26 rfl w1.heap.size 30 i2 (.agg #[.int .i64 0, .int .i64 0]) 2 16 Tryd.underlying26 I2.out.1 I2.out.2.1 I2.out.2.2.1 I2.out.2.2.2 rfl (by decide) u5 out.length _ rfl (row_some (opt_cases u5) P2.out.o (grown_of ((Below.refl _ _).alloc (Nat.le_refl _) _))) ⟨W2.heap.size, 0, none⟩ 1 1 (encPair (dist a1 a0, 2)) rfl rfl (news_pair W2 (dist a1 a0, 2) _) (by simp [encPair, Value.oneCell']) (by decide) (by have := hol.out; simp only [maxLen]; omega) (by have := hol.out; omega) (Nat.le_trans BW2.out.size (by rw [World.size_alloc]; omega)) _ rfl ?_; intro g4 cap4 w4 h1 h2 h3 _; have P4 := Lib.hid (P2.out.yield1 h2 h1 h3); have BW4 := Lib.hid ((BW2.out.alloc BW2.out.size _).grown h2 (Nat.le_trans BW2.out.size (by rw [World.size_alloc]; omega)) (fun k e => (P2.out.o.lt k e).1)); clear h1 h2 h3)
              have c3 : w4.cell? ⟨g, o + (t + 3), none⟩ = some (.int .i64 a2) := by
                have := P4.out.p.cells (t + 3) (by rw [HE.out.1]; omega)
                have e := HA.out.2
                rw [show t + 1 + 2 = t + 3 by omega] at e
                rwa [e] at this
              obtain ⟨pt, hpt⟩ : ∃ pt, pile.take (t + 1) = pt := ⟨_, rfl⟩
              have hpl3 : pt.length = t + 1 := by rw [← hpt, List.length_take, HE.out.1]; omega
              have CE : Hid (∀ W', Below w4.heap.size w4 W' → ∀ j, j < t + 1 → W'.cell? ⟨g, o + j, none⟩ = some (.int .i64 pt[j]!)) := fun W' hW j hj => by
                have hgl4 : g < w4.heap.size := (P4.out.p.own rfl).2
                refine (hW.cell (p := ⟨g, o + j, none⟩) hgl4).trans ?_
                rw [P4.out.p.cells j (by rw [HE.out.1]; omega), ← hpt]
                congr 2
                rw [getElem!_pos (pile.take (t + 1)) j (by rw [List.length_take, HE.out.1]; omega), getElem!_pos pile j (by rw [HE.out.1]; omega), List.getElem_take]
              have HPT := Lib.hid (And.intro hpt hpl3)
              clear hpt hpl3
              go_upto_region 19 with (fail)
              have htm : t + 1 ≤ 1000000 := by omega
              have hptm : pt.length ≤ 1000000 := by have := HPT.out.2; omega
              have hg4 : g < w4.heap.size := (P4.out.p.own rfl).2
              have hcz : (t : Int) + 1 ≤ (c : Int) := by omega
              have hwr : IntKind.i64.wrap ((t : Int) + 1) = (t : Int) + 1 := IntWalk.i64_in _ (by omega)
              have ht0 : (0 : Int) ≤ (t : Int) + 1 := by omega
              have htn : ((t : Int) + 1).toNat = t + 1 := by omega
              have hi1 : (t : Int) + 3 < (t : Int) + 1 + 3 := by omega
              have hi0 : (0 : Int) ≤ (t : Int) + 3 := by omega
              have hin : ((t : Int) + 3).toNat = t + 3 := by omega
              have hwi : IntKind.i64.wrap ((t : Int) + 1 + 3 - 1) = (t : Int) + 3 := by rw [IntWalk.i64_in _ (by omega)]; omega
              go_region_law (first
                | (have q := bx5; clear q; refine step_append_I _ rfl _ _ 22 rfl i0 Tryd.underlying22 I0.out.1 I0.out.2.1 I0.out.2.2.1 I0.out.2.2.2 (.slice (some ⟨g5, p5, none⟩) (t + 1) cap5) pt (by simp [Act.eval]) w1.heap.size P5.out.p BW5.out.size w4.heap.size 1 a2 (by simp [Act.eval]) bx5 hptm ?_; intro g6 p6 cap6 w6 h1 h2 h3; have P6 := Lib.hid (P5.out.heap h2 h1 (fun k e => by cases e; exact h3)); have BW6 := Lib.hid (P5.out.keep6 BW5.out BW5.out.size h2); clear h1 h2 h3)
                | (obtain ⟨o1, o2, o3⟩ := app_pre BW5.out (Nat.le_refl _) P5.out.p (Below.refl _ _) a2 3; refine step_append_I _ rfl _ _ 22 rfl i0 Tryd.underlying22 I0.out.1 I0.out.2.1 I0.out.2.2.1 I0.out.2.2.2 (.slice (some ⟨g5, p5, none⟩) (t + 1) cap5) pt (by simp [Act.eval]) w1.heap.size o1 o2 w5.heap.size 1 a2 (by simp [Act.eval]) o3 hptm ?_; clear o1 o2 o3; intro g6 p6 cap6 w6 h1 h2 h3; have P6 := Lib.hid ((P5.out.below ((Below.refl _ _).alloc (Nat.le_refl _) _)).heap h2 h1 (fun k e => by cases e; exact h3)); have BW6 := Lib.hid (app_post BW5.out (Nat.le_refl _) P5.out.p (Below.refl _ _) h2); clear h1 h2 h3)
                | (refine step_append_nilI _ rfl _ _ 22 rfl i0 Tryd.underlying22 I0.out.1 I0.out.2.1 I0.out.2.2.1 I0.out.2.2.2 (by simp [Act.eval]) (B := w1.heap.size) (Nat.le_trans BW4.out.size (Below.size (show Below w4.heap.size w4 _ by repeat (first | exact Below.refl _ _ | apply Below.drew | refine Below.alloc ?_ (Nat.le_refl _) _)))) g o (t + 1) c pt (by simp [Act.eval, Act.put]) HPT.out.2.symm (Nat.succ_pos t) (CE.out _ (show Below w4.heap.size w4 _ by repeat (first | exact Below.refl _ _ | apply Below.drew | refine Below.alloc ?_ (Nat.le_refl _) _))) htm ?_; intro g5 p5 cap5 w5 h1 h2 h3; have P5 := Lib.hid ((P4.out.below (show Below w4.heap.size w4 _ by repeat (first | exact Below.refl _ _ | apply Below.drew | refine Below.alloc ?_ (Nat.le_refl _) _))).pileNew h2 h1 (fun k e => by cases e; exact h3)); have BW5 := Lib.hid ((BW4.out.trans (Below.mono (show Below w4.heap.size w4 _ by repeat (first | exact Below.refl _ _ | apply Below.drew | refine Below.alloc ?_ (Nat.le_refl _) _)) BW4.out.size)).grown h2 (Nat.le_trans BW4.out.size (Below.size (show Below w4.heap.size w4 _ by repeat (first | exact Below.refl _ _ | apply Below.drew | refine Below.alloc ?_ (Nat.le_refl _) _)))) (fun k e => by cases e)); have c5 : w5.cell? ⟨g, o + (t + 3), none⟩ = some (.int .i64 a2) := (World.cell?_of_block (h2.block g (Nat.lt_of_lt_of_le hg4 (Below.size (show Below w4.heap.size w4 _ by repeat (first | exact Below.refl _ _ | apply Below.drew | refine Below.alloc ?_ (Nat.le_refl _) _)))) (fun e => by cases e))).trans ((Below.cell (p := ⟨g, o + (t + 3), none⟩) (show Below w4.heap.size w4 _ by repeat (first | exact Below.refl _ _ | apply Below.drew | refine Below.alloc ?_ (Nat.le_refl _) _)) hg4).trans c3); try (have bx5 := box_kept h2 (heap_alloc_new w4.drew (.cells #[.int .i64 a2] 3))); clear h1 h2 h3))
              all_goals
                clear hwr hwi ht0 htn hi0 hi1 hin
                go_wp2
                go_roundg (t + 2)
                case measure => omega
                case rel =>
                  have hr := HR.out
                  have ha := HA.out.2
                  rw [show t + 1 + 2 = t + 3 by omega] at ha
                  rw [HPT.out.1, ha] at hr
                  have hl := HPT.out.2
                  refine ⟨pt.length + 1, g6, p6, cap6, by omega, by omega, by omega, rfl, BW6.out, pt ++ [a2], _, f, by simp, P6.out, hr.symm, by have := HE.out.1; have := HE.out.2.1; rw [List.length_append, List.length_singleton]; omega, fun x hx => ?_⟩
                  rcases List.mem_append.1 hx with h | h
                  · exact HE.out.2.2 x (by rw [← HPT.out.1] at h; exact List.mem_of_mem_take h)
                  · have hx2 : x = a2 := by simpa using h
                    rw [hx2]; exact ⟨b21, b22⟩
    · have hltz : ¬ (k : Int) < (m : Int) := by omega
      obtain rfl : m = k := by omega
      rw [← HM.out, List.take_length] at PW
      have hcy : Aside (cycP zs = (pileP ts).2 ++ restP (pileP ts).1) := by rw [← HTS.out]; rfl
      have hll : (pileP ts).1.length ≤ 300 := Nat.le_trans (pileP_len ts) (by rw [HM.out]; exact htl)
      have hcl := cycP_len zs
      have hL := LN.out
      have hld : Loads (pileP ts).1 := fun x hx => LD.out x (turnP_mem zs x (by rw [HTS.out]; exact pileP_mem _ _ hx))
      obtain ⟨pile, hp⟩ : ∃ p, (pileP ts).1 = p := ⟨_, rfl⟩
      obtain ⟨out, ho⟩ : ∃ p, (pileP ts).2 = p := ⟨_, rfl⟩
      rw [hp] at hcy hll hld PW
      rw [ho] at hcy PW
      have HLD := Lib.hid hld
      have hol : out.length + (restP pile).length ≤ 300 := by rw [← List.length_append, ← hcy.out]; omega
      obtain ⟨ao, cp, rfl, hcc, hcm, _⟩ := PW.out.p.view
      obtain ⟨l, hl⟩ : ∃ l, pile.length = l := ⟨_, rfl⟩
      rw [hl] at hll PW ⊢ hcc
      have hrl := rest_len pile
      rw [hl] at hrl
      have HLN := Lib.hid (And.intro hl hrl)
      have HOL := Lib.hid hol
      clear hp ho hld hcl hL hcc hcm hl hrl hol
      rename World => w2
      go_wp2
      go_loopg [5, 12] l (fun gg s5 s12 wr => ∃ i : Nat, (i = 0 ∨ i + 1 ≤ l) ∧ l - i ≤ gg ∧ s12 = .int .i64 ((i + 1 : Nat) : Int) ∧ Aside (Below w1.heap.size w1 wr) ∧ Aside (OP wr w1.heap.size s5 (.slice ao l cp) (out ++ (restP pile).take i) pile))
      case atStart => exact ⟨0, .inl rfl, by omega, rfl, BW.out, by rw [List.take_zero, List.append_nil]; exact PW.out⟩
      case round =>
        obtain ⟨i, hi, hg, rfl, BW2, PW2⟩ := hrel
        by_cases hlt : i + 1 < l
        · have hltz : ((i : Int) + 1) < (l : Int) := by omega
          obtain ⟨g, o, cap', e, _, _, _, hgl, hcell⟩ := PW2.out.p.form (by intro e; have := HLN.out.1; rw [e] at this; simp at this; omega)
          rw [HLN.out.1] at e hcell
          cases e
          have c0 := (hcell i (by omega)).1
          have c1 := (hcell (i + 1) hlt).1
          have RT := Lib.hid (rest_take pile i (by rw [HLN.out.1]; exact hlt))
          have b0 := HLD.out _ (get_mem pile i (by rw [HLN.out.1]; omega))
          have b1 := HLD.out _ (get_mem pile (i + 1) (by rw [HLN.out.1]; exact hlt))
          generalize pile[i]! = a0 at c0 b0 RT
          generalize pile[i + 1]! = a1 at c1 b1 RT
          obtain ⟨b01, b02⟩ := b0
          obtain ⟨b11, b12⟩ := b1
          have hoq : (out ++ (restP pile).take i).length ≤ 300 := by
            have := HOL.out
            rw [List.length_append, List.length_take]; omega
          obtain ⟨oq, hoq2⟩ : ∃ q, out ++ (restP pile).take i = q := ⟨_, rfl⟩
          rw [hoq2] at PW2 hoq
          have HQ := Lib.hid hoq2
          have hd := dist_bd a1 a0 b11 b12 b01 b02
          clear hcell hoq2
          go_wp2
          have ho63 : oq.length + 1 ≤ maxLen := by simp only [maxLen]; omega
          have hoby : (oq.length + 1) * 16 ≤ 140737488355328 := by omega
          have hobs : w1.heap.size ≤ wr.heap.size + 1 := Nat.le_trans BW2.out.size (Nat.le_succ _)
          have hilt : (i : Int) < (l : Int) := by omega
          have hwi : IntKind.i64.wrap (i : Int) = (i : Int) := IntWalk.i64_in _ (by omega)
          have hi0 : (0 : Int) ≤ (i : Int) + 1 := by omega
          have hin : ((i : Int) + 1).toNat = i + 1 := by omega
          go_region_law (first
            | (go_simp; go_at_call 86; refine (refDistance_any a1 a0 _ b11 b12 b01 b02).mono ?_; rintro e w' ⟨rfl, rfl⟩)
            | (refine step_append_lies _ rfl _ _ 26 rfl w1.heap.size 30 i2 (.agg #[.int .i64 0, .int .i64 0]) 2 16 Tryd.underlying26 I2.out.1 I2.out.2.1 I2.out.2.2.1 I2.out.2.2.2 rfl (by decide) u5 oq.length _ (by simp [Act.eval]) (row_some (opt_cases u5) PW2.out.o (grown_of ((Below.refl _ _).drew.alloc (Nat.le_refl _) _))) ⟨wr.heap.size, 0, none⟩ 1 1 (encPair (dist a1 a0, 1)) (by simp [Act.eval]) rfl (news_pair wr.drew (dist a1 a0, 1) _) (by simp [encPair, Value.oneCell']) (by decide) ho63 hoby (Nat.le_trans BW2.out.size (Below.size (show Below wr.heap.size wr _ by repeat (first | exact Below.refl _ _ | apply Below.drew | refine Below.alloc ?_ (Nat.le_refl _) _)))) _ rfl ?_; intro g4 cap4 w4 h1 h2 h3 _; have P4 := Lib.hid ((PW2.out.below (W := wr.drew) (Below.refl _ _).drew).yield1 h2 h1 h3); have BW4 := Lib.hid ((BW2.out.drew.alloc BW2.out.size _).grown h2 (by rw [World.size_alloc]; exact hobs) (fun k e => (PW2.out.o.lt k e).1)); clear h1 h2 h3))
          all_goals
            clear hwi hi0 hin
            go_wp2
            go_roundg (l - (i + 1))
            case measure => omega
            case rel => exact ⟨i + 1, .inr (by omega), by omega, by go_num, BW4.out, by rw [RT.out, ← List.append_assoc, HQ.out]; exact P4.out⟩
        · have hltz : ¬ ((i : Int) + 1) < (l : Int) := by omega
          go_wp2
          refine bodyPost_ret (v := .tuple #[u5, .int .i64 0]) (by simp [results, Tryd.results42, go_sem]) rfl ?_
          refine ⟨_, rfl, ?_, HB1.out.trans (BW2.out.mono HB1.out.size)⟩
          have h := PW2.out.o
          rw [List.take_of_length_le (by rw [HLN.out.2]; omega), ← hcy.out] at h
          exact ⟨h.1, h.2.imp id fun ⟨g, cap, cur, h1, h2, h3⟩ => ⟨g, cap, cur, h1, Nat.le_trans HB1.out.size h2, h3⟩⟩
end Go.Proofs.YtchnhjffpldpiaaDoor
