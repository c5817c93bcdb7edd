/- The reference's stretches, CheckPages, Gaps, Doubles. -/
import Derived.Test.YtchnhjffpldpiaaDoorRPag
namespace Go.Proofs.YtchnhjffpldpiaaDoor
open Go Go.RowKit

theorem info_sp : ((Tryd.prog).info? 91).map (fun i => (i.zero, i.size, i.bytes)) = some (some (.agg #[.int .i64 0, .int .i64 0]), 2, 16) := by kernel_rfl
/-- How stretches grow in memory. -/
def StrM (w wr : World) (v : Value) (out : List (Int × Int)) : Prop := wr.ownsRow w.heap.size 91 2 v out.length (out.flatMap encPair) ∧ Below w.heap.size w wr
theorem StrM.below {w wr W : World} {v : Value} {out : List (Int × Int)} (h : StrM w wr v out) (hb : Below wr.heap.size wr W) : StrM w W v out :=
  ⟨h.1.kept (row := none) ⟨hb.os, hb.tape, hb.output, hb.size, fun k hk _ => hb.block k hk⟩ (by cases v.ownBlock <;> simp), h.2.trans (hb.mono h.2.size)⟩
theorem StrM.up {w w1 wr : World} {v : Value} {out : List (Int × Int)} (h : StrM w1 wr v out) (hb : Below w.heap.size w w1) : StrM w wr v out :=
  ⟨⟨h.1.1, h.1.2.imp id fun ⟨g, cap, cur, h1, h2, h3⟩ => ⟨g, cap, cur, h1, Nat.le_trans hb.size h2, h3⟩⟩, hb.trans (h.2.mono hb.size)⟩
/-- One more. -/
theorem StrM.grow {w W w3 : World} {v v' : Value} {out : List (Int × Int)} {x : Int × Int} {o : Obj} (h : StrM w W v out) (m : Nat) (hm : out.length = m) (G : (W.alloc o).grownBy w3 v.ownBlock) (ho : w3.ownsRow w.heap.size 91 2 v' (m + 1) (out.flatMap encPair ++ encPair x)) : StrM w w3 v' (out ++ [x]) := by
  subst hm
  refine ⟨by simpa [List.flatMap_append] using ho, (h.2.alloc h.2.size o).grown G (by rw [World.size_alloc]; have := h.2.size; omega) (fun k e => (h.1.lt k e).1)⟩
theorem StrM.row {w W : World} {v : Value} {out : List (Int × Int)} (h : StrM w W v out) (m : Nat) (hm : out.length = m) : W.ownsRow w.heap.size 91 2 v m (out.flatMap encPair) := by
  subst hm; exact h.1
/-- The last one longer. -/
theorem StrM.last {w W : World} {g cap : Nat} {A : List (Int × Int)} {l x : Int} (hB : Below w.heap.size w W) (hg : w.heap.size ≤ g)
    (h : (W.setCell ⟨g, A.length * 2 + 1, none⟩ (.int .i64 x)).ownsRow w.heap.size 91 2 (.slice (some ⟨g, 0, none⟩) (A.length + 1) cap) (A ++ [(l, x)]).length ((A ++ [(l, x)]).flatMap encPair)) :
    StrM w (W.setCell ⟨g, A.length * 2 + 1, none⟩ (.int .i64 x)) (.slice (some ⟨g, 0, none⟩) (A.length + 1) cap) (A ++ [(l, x)]) :=
  ⟨h, hB.setCell (p := ⟨g, A.length * 2 + 1, none⟩) hg _⟩
theorem StrM.val {w wr : World} {v : Value} (h : StrM w wr v []) : v = .slice none 0 0 ∨ ∃ g cap, v = .slice (some ⟨g, 0, none⟩) 0 cap := by
  rcases h.1.2 with ⟨h1, _⟩ | ⟨g, cap, _, h1, _⟩
  · exact .inl h1
  · exact .inr ⟨g, cap, h1⟩

variable {pages : List (Int × Int)} {a : Option Addr} {n c : Nat} {w : World} {B : Nat}

set_option maxRecDepth 100000 in
set_option maxHeartbeats 2000000 in
theorem stretches_any (hB : B ≤ w.heap.size) (hS : Rd encPair 2 w B a n pages) (hn : n ≤ 1000000) (hours : Nat) (hh : hours ≤ 100000) (lo hi : Int) (f : Int → Bool) (hf : ∀ h : Nat, h < hours → inB (many pages h) lo hi = f h) :
    Calls Tryd.prog 96 #[.int .i64 hours, .slice a n c, .int .i64 lo, .int .i64 hi] w fun e w' => ∃ v, e = .returned v ∧ StrM w w' v (strUp f hours) := by
  have MN := Lib.hid (fun (W : World) (hW : Below w.heap.size w W) (h m : Int) (hm : many pages h = m) => many_any (c := c) (Nat.le_trans hB hW.size) (hS.below (hW.mono hB)) hn h m hm)
  have HF := Lib.hid hf
  obtain ⟨i0, hi0, hy0, hy1, hy2⟩ := info_parts info_sp
  have I0 := Lib.hid (And.intro hi0 (And.intro hy0 (And.intro hy1 hy2)))
  clear hS hB hf hi0 hy0 hy1 hy2
  go_enter Tryd.func96, Tryd.ntmps96
  go_wp2
  go_loopg [9, 10] hours (fun gg s9 s10 wr => ∃ k : Nat, k ≤ hours ∧ hours - k ≤ gg ∧ s10 = .int .i64 k ∧ Aside (StrM w wr s9 (strUp f k)))
  case atStart => exact ⟨0, Nat.zero_le _, by omega, rfl, World.ownsRow_nil _ _ _ _, Below.refl _ _⟩
  case round =>
    obtain ⟨k, hk, hg, rfl, SM⟩ := hrel
    by_cases hlt : k < hours
    · have hltz : (k : Int) < (hours : Int) := by omega
      have hk0 : (0 : Int) ≤ (k : Int) := by omega
      obtain ⟨m, hm⟩ : ∃ m, many pages (k : Int) = m := ⟨_, rfl⟩
      have M1 := Lib.hid (MN.out wr SM.out.2 k m hm)
      have SU := Lib.hid (strUp_succ f k)
      have hlen := strUp_len f k
      have hr : inB m lo hi = f k := by rw [← hm]; exact HF.out k hlt
      obtain ⟨r, hr2⟩ : ∃ r, f (k : Int) = r := ⟨_, rfl⟩
      rw [hr2] at hr SU
      obtain ⟨out, hout⟩ : ∃ out, strUp f k = out := ⟨_, rfl⟩
      rw [hout] at SM SU hlen
      have W1 := Lib.hid (refWithin_q m lo hi r hr)
      clear hm hr hr2 hout
      cases r with
      | false =>
        rw [if_neg (by decide)] at SU
        go_wp2_with (first
          | (go_at_call 57; refine M1.out.mono ?_; rintro e w1 ⟨rfl, hb1⟩; have HB1 := Lib.hid hb1; clear hb1)
          | (go_at_call 77; refine (W1.out _).mono ?_; rintro e w2 ⟨rfl, rfl⟩))
        go_roundg (hours - (k + 1))
        case measure => omega
        case rel => exact ⟨k + 1, by omega, by omega, by go_num, by rw [SU.out]; exact SM.out.below HB1.out⟩
      | true =>
        rw [if_pos rfl] at SU
        rcases list_end out with rfl | ⟨A, l, u, rfl⟩
        · rw [strStep_nil] at SU
          rcases SM.out.val with e | ⟨g, cap, e⟩
          all_goals
            subst e
            go_wp2_with (first
              | (go_at_call 57; refine M1.out.mono ?_; rintro e w1 ⟨rfl, hb1⟩; have HB1 := Lib.hid hb1; have SM1 := Lib.hid (SM.out.below hb1); clear hb1)
              | (go_at_call 77; refine (W1.out _).mono ?_; rintro e w2 ⟨rfl, rfl⟩)
              | (at_builtin; refine wpList_append_lies _ rfl _ _ 81 rfl w.heap.size 91 i0 (.agg #[.int .i64 0, .int .i64 0]) 2 16 Tryd.underlying81 I0.out.1 I0.out.2.1 I0.out.2.2.1 I0.out.2.2.2 rfl (by decide) _ 0 _ rfl ((SM1.out.row 0 rfl).alloc _) ⟨w1.heap.size, 0, none⟩ 1 1 (encPair ((k : Int), (k : Int))) rfl rfl (news_pair w1 ((k : Int), (k : Int)) _) (by simp [encPair, Value.oneCell']) (by decide) (by simp only [maxLen]; omega) (by omega) (by have := SM1.out.2.size; rw [World.size_alloc]; omega) _ rfl ?_; intro g3 cap3 w3 h1 h2 _ _; have SM3 := Lib.hid (SM1.out.grow 0 rfl h2 h1); clear h1 h2))
            go_roundg (hours - (k + 1))
            case measure => omega
            case rel => exact ⟨k + 1, by omega, by omega, by go_num, by rw [SU.out]; exact SM3.out⟩
        · by_cases hu : u = (k : Int) - 1
          · rw [strStep_same A l u k hu] at SU
            obtain ⟨g, cap, e, hg0, hg1, hc, hf, hst⟩ := own_last SM.out.1
            subst e
            have HG := Lib.hid hg0
            have hA : A.length + 1 ≤ 100000 := by rw [List.length_append, List.length_singleton] at hlen; omega
            have hub : (u == (k : Int) - 1) = true := by simpa using hu
            clear hc hf hst hg0
            go_wp2_with (first
              | (go_at_call 57; refine M1.out.mono ?_; rintro e w1 ⟨rfl, hb1⟩; have SM1 := Lib.hid (SM.out.below hb1); obtain ⟨g', cap', e, hg0, hg2, hc, hf, hst⟩ := own_last SM1.out.1; cases e; have HST := Lib.hid hst; clear hb1 hst hg0)
              | (go_at_call 77; refine (W1.out _).mono ?_; rintro e w2 ⟨rfl, rfl⟩))
            go_roundg (hours - (k + 1))
            case measure => omega
            case rel => exact ⟨k + 1, by omega, by omega, by go_num, by rw [SU.out]; exact StrM.last SM1.out.2 HG.out (HST.out _)⟩
          · rw [strStep_more A l u k hu] at SU
            obtain ⟨g, cap, e, hg0, hg1, hc, hf, hst⟩ := own_last SM.out.1
            subst e
            have hA : A.length + 1 ≤ 100000 := by rw [List.length_append, List.length_singleton] at hlen; omega
            have hub : (u == (k : Int) - 1) = false := by simpa using hu
            clear hc hf hst hg0
            go_wp2_with (first
              | (go_at_call 57; refine M1.out.mono ?_; rintro e w1 ⟨rfl, hb1⟩; have SM1 := Lib.hid (SM.out.below hb1); obtain ⟨g', cap', e, hg0, hg2, hc, hf, hst⟩ := own_last SM1.out.1; cases e; clear hb1 hst hg0)
              | (go_at_call 77; refine (W1.out _).mono ?_; rintro e w2 ⟨rfl, rfl⟩)
              | (at_builtin; refine wpList_append_lies _ rfl _ _ 81 rfl w.heap.size 91 i0 (.agg #[.int .i64 0, .int .i64 0]) 2 16 Tryd.underlying81 I0.out.1 I0.out.2.1 I0.out.2.2.1 I0.out.2.2.2 rfl (by decide) _ (A.length + 1) _ rfl ((SM1.out.row (A.length + 1) (by simp)).alloc _) ⟨w1.heap.size, 0, none⟩ 1 1 (encPair ((k : Int), (k : Int))) rfl rfl (news_pair w1 ((k : Int), (k : Int)) _) (by simp [encPair, Value.oneCell']) (by decide) (by simp only [maxLen]; omega) (by omega) (by have := SM1.out.2.size; rw [World.size_alloc]; omega) _ rfl ?_; intro g3 cap3 w3 h1 h2 _ _; have SM3 := Lib.hid (SM1.out.grow (A.length + 1) (by simp) h2 h1); clear h1 h2))
            go_roundg (hours - (k + 1))
            case measure => omega
            case rel => exact ⟨k + 1, by omega, by omega, by go_num, by rw [SU.out]; exact SM3.out⟩
    · have hltz : ¬ (k : Int) < (hours : Int) := by omega
      obtain rfl : hours = k := by omega
      go_wp2
      go_ret
      exact ⟨_, rfl, SM.out⟩
end Go.Proofs.YtchnhjffpldpiaaDoor
