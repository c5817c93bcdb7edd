/- parts.Cycles -/
import Derived.Test.YtchnhjffpldpiaaDoorIter
namespace Go.Proofs.YtchnhjffpldpiaaDoor
open Go Go.RowKit Go.Shelf
attribute [local go_sem] Oper.semAt_some

theorem info_pr : ((Tryd.prog).info? 30).map (fun i => (i.zero, i.size, i.bytes)) = some (some (.agg #[.int .i64 0, .int .i64 0]), 2, 16) := by kernel_rfl

/-- What the caller's round keeps: its own list, beside the iterator's blocks. -/
structure Outs (n₀ ob : Nat) (w : World) (S : Nat → Prop) (pre : List (Int × Int)) (W : World) : Prop where
  box : ∃ v, Boxed W ob 26 v ∧ W.ownsRow n₀ 30 2 v pre.length (pre.flatMap encPair) ∧ (∀ g, v.ownBlock = some g → ¬ S g) ∧ (v = .slice none 0 0 ↔ pre = [])
  bS : ¬ S ob
  lt : ∀ k, S k → k < W.heap.size
  le : ∀ k, S k → n₀ ≤ k
  bel : Below n₀ w W

theorem Outs.ofs (n₀ ob : Nat) (w : World) (hn : n₀ ≤ w.heap.size) (B : Nat) (hB : n₀ ≤ B) (S : Nat → Prop) : OwnFrom B (Outs n₀ ob w S) := by
  rintro pre X Y row ⟨⟨v, b1, b2, b3, b4⟩, hS, hl, hle, hb⟩ hg hr
  refine ⟨⟨v, b1.kept hg (fun e => ?_), b2.kept hg ?_, b3, b4⟩, hS, fun k hk => Nat.lt_of_lt_of_le (hl k hk) hg.size, hle, (ownFrom_below (β := Unit) hn hB) () X Y row hb hg hr⟩
  · obtain ⟨_, o, ho, hc⟩ := hr ob e.symm
    rw [show X.heap[ob]? = _ from b1] at ho; cases ho; cases hc
  · cases hv : v.ownBlock with
    | none => exact .inl rfl
    | some g =>
      refine .inr fun e => ?_
      obtain ⟨_, o, ho, hc⟩ := hr g e.symm
      rcases b2.2 with ⟨hz, _⟩ | ⟨g', cap, cur, hz, _, hg', _⟩
      · rw [hz] at hv; cases hv
      · rw [hz] at hv; cases hv
        rw [hg'] at ho; cases ho; cases hc
theorem Outs.mind (n₀ ob : Nat) (w : World) (hn : n₀ ≤ w.heap.size) : Minds (Outs n₀ ob w) := by
  rintro S pre X Y row ⟨⟨v, b1, b2, b3, b4⟩, hS, hl, hle, hb⟩ hg hr
  have hz := hb.size
  have hz2 := hg.size
  refine ⟨⟨v, b1.kept hg (fun e => hS (hr ob e.symm)), b2.kept hg ?_, ?_, b4⟩, ?_, ?_, ?_, hb.grown hg (by omega) (fun k e => hle k (hr k e))⟩
  · cases hv : v.ownBlock with
    | none => exact .inl rfl
    | some g => exact .inr fun e => b3 g hv (hr g e.symm)
  · rintro g hv (h | ⟨h, _⟩)
    · exact b3 g hv h
    · have := (b2.lt g hv).2; omega
  · rintro (h | ⟨h, _⟩)
    · exact hS h
    · have := b1.lt; omega
  · rintro k (h | ⟨_, h⟩)
    · have := hl k h; omega
    · exact h
  · rintro k (h | ⟨h, _⟩)
    · exact hle k h
    · omega

theorem row_view {W : World} {base : Nat} {e : TypeId} {size : Nat} {v : Value} {n : Nat} {xs : List Value} (h : W.ownsRow base e size v n xs) : ∃ ao cap, v = .slice ao n cap := by
  rcases h.2 with ⟨h1, h2⟩ | ⟨g, cap, cur, h1, _⟩
  · exact ⟨none, 0, by rw [h1, h2]⟩
  · exact ⟨_, cap, h1⟩
theorem news_pair (W : World) (x : Int × Int) (T : TypeId) : ∀ (j : Nat) (u : Value), (encPair x)[j]? = some u → (W.alloc (.cells #[.int .i64 x.1, .int .i64 x.2] T)).cell? ((⟨W.heap.size, 0, none⟩ : Addr).add j) = some u :=
  World.news_of_block (cs := #[.int .i64 x.1, .int .i64 x.2]) (t := T) (fr := (0, 0)) (heap_alloc_new W _)

set_option maxRecDepth 100000 in
set_option maxHeartbeats 4000000 in
theorem cycles_ok (zs : List Int) (a : Option Addr) (n c : Nat) (w : World) (B : Nat) (hB : B ≤ w.heap.size) (hR : Rd encInt 1 w B a n zs) (he : seriesE zs = 0) :
    Calls Tryd.prog 19 #[.slice a n c] w fun e w' => ∃ v, e = .returned (.tuple #[v, .int .i64 0]) ∧ w'.ownsRow w.heap.size 30 2 v (cycP zs).length ((cycP zs).flatMap encPair) ∧ (v = .slice none 0 0 ↔ cycP zs = []) ∧ Below w.heap.size w w' := by
  obtain ⟨hlen, hld⟩ := loads_of he
  have hn := hR.len
  have hna : n ≤ 300 := by omega
  have SE := Lib.hid (fun (W : World) (hW : Below w.heap.size w W) => by
    have := series_any zs a n c W B (Nat.le_trans hB hW.size) (hR.below (hW.mono hB))
    rw [he] at this
    exact this)
  have IT := Lib.hid (fun (cb : Nat) (W : World) (hW : Below w.heap.size w W) (hc : W.cell? ⟨cb, 0, none⟩ = some (.slice a n c)) (hcl : cb < W.heap.size) =>
    count1_mine 8 (by omega) zs hld cb a n c W B (Nat.le_trans hB hW.size) (hR.below (hW.mono hB)) hna hcl hc w.heap.size)
  have CL := Lib.hid (cycP_len zs)
  have HLEN := Lib.hid hlen
  obtain ⟨cs, hcs⟩ : ∃ cs, cycP zs = cs := ⟨_, rfl⟩
  rw [hcs] at IT CL ⊢
  clear hld hR hn hlen hcs he hB
  refine (callsIn_wide (n := 9)).1 ?_
  refine callsIn_of_wp_marks Tryd.func19 rfl trivial ?_ rfl
  simp only [Tryd.ntmps19, List.size_toArray, List.length_cons, List.length_nil, Nat.reduceAdd, Nat.reduceSub, Array.replicate_succ, Array.replicate_zero, List.push_toArray, List.append_toArray, List.nil_append, List.cons_append]
  have f1 : Fence.wide.fn 62 := trivial
  have f2 : Fence.wide.fn 63 := trivial
  gi_wp2_with (first
    | (gi_at_call 62; refine (callsIn_wide.2 (SE.out _ ((Below.refl _ _).alloc (Nat.le_refl _) _))).mono ?_; rintro e w1 ⟨rfl, hb1⟩)
    | (gi_at_call 63; refine (callsIn_wide.2 (count_any _ _ _ _ _ rfl)).mono ?_; rintro e w2 ⟨rfl, rfl⟩))
  have hbw1 : Below w.heap.size w w1 := ((Below.refl _ _).alloc (Nat.le_refl _) _).trans (hb1.mono (by rw [World.size_alloc]; omega))
  have hbw2 : Below w.heap.size w (w1.alloc (.cells #[.slice a n c] 22)) := hbw1.alloc hbw1.size _
  have hz1 : w.heap.size < w1.heap.size := by have := hb1.size; rw [World.size_alloc] at this; omega
  have hbx : Boxed (w1.alloc (.cells #[.slice a n c] 22)) w.heap.size 26 (.slice none 0 0) := by
    refine Boxed.alloc ?_ _
    exact (hb1.block _ (by rw [World.size_alloc]; omega)).trans (Boxed.new w 26 (.slice none 0 0))
  have hcb : (w1.alloc (.cells #[.slice a n c] 22)).cell? ⟨w1.heap.size, 0, none⟩ = some (.slice a n c) := (Boxed.new w1 22 (.slice a n c)).cell
  have IT2 := Lib.hid (IT.out w1.heap.size _ hbw2 hcb (by rw [World.size_alloc]; omega))
  have H0 := Lib.hid (show Outs w.heap.size w.heap.size w (fun _ => False) [] (w1.alloc (.cells #[.slice a n c] 22)) from ⟨⟨_, hbx, World.ownsRow_nil _ _ _ _, (fun g hg => by cases hg), by simp⟩, id, (fun _ h => h.elim), (fun _ h => h.elim), hbw2⟩)
  have HZ := Lib.hid (show w.heap.size ≤ (w1.alloc (.cells #[.slice a n c] 22)).heap.size from hbw2.size)
  obtain ⟨i0, hi, hy0, hy1, hy2⟩ := info_parts info_pr
  have I0 := Lib.hid (And.intro hi (And.intro hy0 (And.intro hy1 hy2)))
  clear hi hy0 hy1 hy2 hcb hbx IT SE hb1 hbw1 hbw2
  refine wpIn_rangeFunc_mine rfl (by omega) (gf := 113) (lb := #[.pointer (some ⟨w1.heap.size, 0, none⟩)]) rfl trivial (enters_of Tryd.func113 (by kernel_rfl) rfl) IT2.out HZ.out (fun _ => rfl)
    (Outs w.heap.size w.heap.size w) (fun S => Outs.ofs _ _ _ (Nat.le_refl _) _ HZ.out S) (Outs.mind _ _ _ (Nat.le_refl _)) H0.out
    (fun x a' _ => a' = { tmps := #[.slice a n c, undef, .pointer (some ⟨w.heap.size, 0, none⟩), .int .i64 0, .int .i64 0, .int .i64 x.1, .int .i64 x.2, .slice a n c, .int .i64 0, .int .i64 0, .bool false, undef, .slice a n c, .func (.func 113) #[] #[.pointer (some ⟨w1.heap.size, 0, none⟩)], .int .i64 x.1, .int .i64 x.2, undef, undef, undef, undef, undef, undef, undef], defers := [] })
    (fun _ _ _ _ _ _ h _ _ => h) ?assign ?body ?done
  case assign =>
    intro l S pre x W K hI hS hK
    gi_wp2
    exact hK _ _ (KeepsFrom.refl _ _) (fun _ _ => rfl) (Below.refl _ _) hI rfl
  case body =>
    rintro l S pre x _ W hl hr ⟨⟨v, hv, hrow, hvs, hnil⟩, hbS, hlt, hle, hB⟩ hSr rfl hpre
    have hc := hv.cell
    have hlen : pre.length < 300 := by
      have h1 := hpre.length_le
      have h2 := CL.out
      have h3 := HLEN.out
      rw [List.length_append, List.length_singleton] at h1
      omega
    obtain ⟨x1, x2⟩ := x
    have hb63 : pre.length + 1 ≤ maxLen := by simp only [maxLen]; omega
    have hb16 : (pre.length + 1) * 16 ≤ 140737488355328 := by omega
    have hbs : w.heap.size ≤ (W.alloc (.cells #[.int .i64 x1, .int .i64 x2] 30)).heap.size := by have := hB.size; rw [World.size_alloc]; omega
    have HV := Lib.hid hv
    have HROW := Lib.hid hrow
    have HVS := Lib.hid hvs
    have HREST := Lib.hid (And.intro hnil (And.intro hbS (And.intro hlt (And.intro hle hB))))
    have HBS := Lib.hid hbs
    have HB63 := Lib.hid hb63
    have HB16 := Lib.hid hb16
    clear hv hrow hvs hnil hbS hlt hle hB hbs hb63 hb16 hpre hSr hlen
    gi_wp2_with (gi_at_builtin; refine wpListIn_append_lies _ rfl _ _ 26 rfl w.heap.size 30 i0 (.agg #[.int .i64 0, .int .i64 0]) 2 16 Tryd.underlying26 I0.out.1 I0.out.2.1 I0.out.2.2.1 I0.out.2.2.2 rfl (by decide) v pre.length _ rfl (HROW.out.alloc _) ⟨W.heap.size, 0, none⟩ 1 1 (encPair (x1, x2)) rfl rfl (news_pair W (x1, x2) _) (by simp [encPair, Value.oneCell']) (by decide) HB63.out HB16.out HBS.out ?_; intro g' cap' w3 hown' hgrow hat; obtain ⟨hv1, hv2, hr2, hk2, hb2⟩ := HV.out.appended (by decide) HROW.out HREST.out.2.2.2.2.size (Nat.le_refl _) hown' hgrow; have hc1 := hv1.cell; have hf1 := hv1.frozen; have HV2 := Lib.hid hv2; have HR2 := Lib.hid hr2; have HK2 := Lib.hid hk2; have HB2 := Lib.hid hb2; have HG := Lib.hid hgrow; have HAT := Lib.hid hat; clear hv1 hv2 hr2 hk2 hb2 hgrow hat hown')
    have hkeep : ∀ k, S k → (w3.setCell ⟨w.heap.size, 0, none⟩ (.slice (some ⟨g', 0, none⟩) (pre.length + 1) cap')).heap[k]? = W.heap[k]? := by
      intro k hk
      have h1 := HREST.out.2.2.1 k hk
      have hne : k ≠ w.heap.size := fun e => HREST.out.2.1 (e ▸ hk)
      rw [Below.heap_setCell _ _ _ _ hne, HG.out.block k (by rw [World.size_alloc]; omega) (fun e => HVS.out k e.symm hk), Below.heap_alloc _ _ _ h1]
    refine ⟨HK2.out.from _, hkeep, HB2.out, ⟨_, HV2.out, ?_, ?_, ?_⟩, HREST.out.2.1, fun k hk => Nat.lt_of_lt_of_le (HREST.out.2.2.1 k hk) HK2.out.size, HREST.out.2.2.2.1, HREST.out.2.2.2.2.trans HB2.out⟩
    · have := HR2.out
      simpa [List.flatMap_append] using this
    · intro g hg hs
      cases hg
      rcases HAT.out with h | h
      · exact HVS.out g' h hs
      · have := HREST.out.2.2.1 g' hs
        rw [h, World.size_alloc] at this
        omega
    · simp
  case done =>
    rintro D S W hD ⟨⟨v, hv, hrow, hvs, hnil⟩, hbS, hlt, hle, hB⟩ hK
    obtain ⟨ao, cap, rfl⟩ := row_view hrow
    have hc := hv.cell
    have hf := hv.frozen
    gi_wp2
    have hK2 := (KeepsOthers.setCell W ⟨w.heap.size, 0, none⟩ (.slice ao cs.length cap)).same D _ hK rfl
    refine ⟨by simp, .inl ⟨_, _, rfl, run_takeDeferred hK2, ?_⟩⟩
    have hb5 : Boxed ((W.setCell ⟨w.heap.size, 0, none⟩ (.slice ao cs.length cap)).putObj D (.deferred none)) w.heap.size 26 (.slice ao cs.length cap) :=
      (hv.set (.slice ao cs.length cap)).kept (grownBy_putObj' _ D _) (fun e => by cases e; rw [World.size_alloc] at hD; omega)
    have hr5 : ((W.setCell ⟨w.heap.size, 0, none⟩ (.slice ao cs.length cap)).putObj D (.deferred none)).ownsRow w.heap.size 30 2 (.slice ao cs.length cap) cs.length (cs.flatMap encPair) :=
      ownsRow_putObj (hrow.kept (grownBy_setCell' W w.heap.size _) (.inr (hv.not_row (by decide) hrow).symm)) _ hK2 rfl
    have hB5 : Below w.heap.size w ((W.setCell ⟨w.heap.size, 0, none⟩ (.slice ao cs.length cap)).putObj D (.deferred none)) :=
      (hB.setCell (p := ⟨w.heap.size, 0, none⟩) (Nat.le_refl _) _).trans (belowK_b (w := w) (Nat.le_refl _) _ D _ _ (by rw [World.size_alloc] at hD; omega) hK2 rfl rfl)
    generalize (W.setCell ⟨w.heap.size, 0, none⟩ (.slice ao cs.length cap)).putObj D (.deferred none) = W5 at hb5 hr5 hB5 ⊢
    have hc5 := hb5.cell
    refine ⟨.tuple #[.slice ao cs.length cap, .int .i64 0], ?_, .slice ao cs.length cap, rfl, hr5, hnil, hB5⟩
    simp [results, Tryd.results19, go_sem, hc5]
end Go.Proofs.YtchnhjffpldpiaaDoor
