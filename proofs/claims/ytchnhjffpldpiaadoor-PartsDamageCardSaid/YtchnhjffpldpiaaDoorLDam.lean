/- swashplatelaw09.PartsDamage answers true. -/
import Derived.Test.YtchnhjffpldpiaaDoorLCyc
import Derived.Test.YtchnhjffpldpiaaDoorAppP
namespace Go.Proofs.YtchnhjffpldpiaaDoor
open Go.RowKit

variable {zs : List Int} {steps : List (Int × Int)} {a a2 : Option Addr} {n c n2 c2 : Nat} {w : World} {B : Nat}

set_option maxRecDepth 100000 in
set_option maxHeartbeats 1000000 in
theorem damage_no (hR : Rd encInt 1 w w.heap.size a n zs) (hS : Rd encPair 2 w w.heap.size a2 n2 steps) (hG : Glb w w.heap.size) (m1 m2 : Int) (d er : Int) (hd : damF zs steps = (d, er)) (h0 : ¬ er = 0) :
    Calls Tryd.prog 12 #[.slice a n c, .slice a2 n2 c2, .agg #[.int .i64 m1, .int .i64 m2]] w fun e w' => e = .returned (.bool true) ∧ Below w.heap.size w w' := by
  have WK := Lib.hid (works_in hG)
  have PDA : Hid (∀ W, Below w.heap.size w W → Calls Tryd.prog 43 #[.slice a n c, .slice a2 n2 c2] W fun e w' => e = .returned (.tuple #[.int .i64 d, .int .i64 er]) ∧ Below w.heap.size w w') := fun W hW =>
    (pdam_any (Nat.le_refl _) ((hR.below hW).up hW.size) ((hS.below hW).up hW.size) d er hd).mono fun e w' ⟨h1, h3⟩ => ⟨h1, hW.trans (h3.mono hW.size)⟩
  have hf : (er == 0) = false := by simpa using h0
  have hf2 : (er != 0) = true := by simpa using h0
  clear hR hS hG hd h0
  go_enter Tryd.func12, Tryd.ntmps12
  go_wp2_with (first
    | (go_at_call 43; refine (PDA.out _ ((Below.refl _ _).alloc (Nat.le_refl _) _)).mono ?_; rintro e w1 ⟨rfl, hb1⟩; have HB1 := Lib.hid hb1; clear hb1)
    | (go_at_call 18; refine (WK.out _ HB1.out).mono ?_; rintro e w2 ⟨rfl, hb2⟩))
  go_ret
  exact ⟨rfl, hb2⟩
/-- Do the damages of the first k steps not rise above m? -/
def risesUp (steps : List (Int × Int)) (m : Int) (k : Nat) : Bool := (List.range k).all fun i => decide ((steps[i]!).2 ≤ m)
theorem risesUp_zero (steps : List (Int × Int)) (m : Int) : risesUp steps m 0 = true := rfl
theorem risesUp_succ (steps : List (Int × Int)) (m : Int) (k : Nat) : risesUp steps m (k + 1) = (risesUp steps m k && decide ((steps[k]!).2 ≤ m)) := by
  unfold risesUp; rw [List.range_succ, List.all_append]; simp
theorem rises_of {steps : List (Int × Int)} {m : Int} {k : Nat} (h : risesUp steps m k = true) : ∀ i, i < k → (steps[i]!).2 ≤ m := fun i hi => by
  have := List.all_eq_true.1 h i (List.mem_range.2 hi)
  simpa using this

set_option maxRecDepth 100000 in
set_option maxHeartbeats 4000000 in
theorem damage_yes (hR : Rd encInt 1 w w.heap.size a n zs) (hS : Rd encPair 2 w w.heap.size a2 n2 steps) (hG : Glb w w.heap.size) (m1 m2 : Int) (d : Int) (hd : damF zs steps = (d, 0)) :
    Calls Tryd.prog 12 #[.slice a n c, .slice a2 n2 c2, .agg #[.int .i64 m1, .int .i64 m2]] w fun e w' => e = .returned (.bool true) ∧ Below w.heap.size w w' := by
  have WK := Lib.hid (works_in hG)
  obtain ⟨he, hst, hdd⟩ := damF_zero hd
  clear hdd
  have hn8 : n2 ≤ 8 := by rw [hS.len]; exact (steps_of hst).1
  have hn3 : n ≤ 300 := by rw [hR.len]; exact (loads_of he).1
  obtain ⟨⟨d2, er2⟩, hd2⟩ : ∃ p, damF zs (steps ++ [(m1, m2)]) = p := ⟨_, rfl⟩
  obtain ⟨m, hm⟩ : ∃ m, (turnP zs).length = m := ⟨_, rfl⟩
  have hm3 : m ≤ 300 := by have := turnP_len zs; have := hR.len; omega
  have hd7 := damF_seven he
  rw [hm] at hd7
  have PDA : Hid (∀ W, Below w.heap.size w W → Calls Tryd.prog 43 #[.slice a n c, .slice a2 n2 c2] W fun e w' => e = .returned (.tuple #[.int .i64 d, .int .i64 0]) ∧ Below W.heap.size W w' ∧ Below w.heap.size w w') := fun W hW =>
    (pdam_any (Nat.le_refl _) ((hR.below hW).up hW.size) ((hS.below hW).up hW.size) d 0 hd).mono fun e w' ⟨h1, h3⟩ => ⟨h1, h3, hW.trans (h3.mono hW.size)⟩
  have PD2 : Hid (∀ W a3 n3 c3, Below w.heap.size w W → Rd encPair 2 W W.heap.size a3 n3 (steps ++ [(m1, m2)]) → Calls Tryd.prog 43 #[.slice a n c, .slice a3 n3 c3] W fun e w' => e = .returned (.tuple #[.int .i64 d2, .int .i64 er2]) ∧ Below w.heap.size w w') := fun W a3 n3 c3 hW hr =>
    (pdam_any (Nat.le_refl _) ((hR.below hW).up hW.size) hr d2 er2 hd2).mono fun e w' ⟨h1, h3⟩ => ⟨h1, hW.trans (h3.mono hW.size)⟩
  have PD7 : Hid (∀ W a3 n3 c3, Below w.heap.size w W → Rd encPair 2 W W.heap.size a3 n3 [(0, 7)] → Calls Tryd.prog 43 #[.slice a n c, .slice a3 n3 c3] W fun e w' => e = .returned (.tuple #[.int .i64 (7 * max 0 ((m : Int) - 1)), .int .i64 0]) ∧ Below w.heap.size w w') := fun W a3 n3 c3 hW hr =>
    (pdam_any (Nat.le_refl _) ((hR.below hW).up hW.size) hr _ _ hd7).mono fun e w' ⟨h1, h3⟩ => ⟨h1, hW.trans (h3.mono hW.size)⟩
  have RT := Lib.hid (fun (W : World) (hW : Below w.heap.size w W) => refTurning_len zs a n c W W.heap.size (Nat.le_refl _) ((hR.below hW).up hW.size) hn3 m hm)
  have ST : Hid (∀ W, Below w.heap.size w W → Rd encPair 2 W w.heap.size a2 n2 steps) := fun W hW => hS.below hW
  have HSL := Lib.hid hS.len
  have HMORE : Hid (er2 = 0 → risesUp steps m2 n2 = true → d ≤ d2) := fun h1 h2 => by
    subst h1
    exact damF_more hd hd2 (by rw [← hS.len]; exact rises_of h2)
  clear hR hS hG hd hd2 he hst hm hd7
  go_enter Tryd.func12, Tryd.ntmps12
  go_wp2_with (first
    | (go_at_call 43; refine (PDA.out _ ((Below.refl _ _).alloc (Nat.le_refl _) _)).mono ?_; rintro e w1 ⟨rfl, hb1, hb2⟩; have HB1 := Lib.hid hb2; have HX := Lib.hid ((hb1.block w.heap.size (by rw [World.size_alloc]; omega)).trans (heap_alloc_new w (.cells #[.int .i64 m1, .int .i64 m2] 30))); clear hb1 hb2 PDA))
  go_loopg [9, 10] n2 (fun gg s9 s10 wr => ∃ k : Nat, k ≤ n2 ∧ n2 - k ≤ gg ∧ s9 = .bool (risesUp steps m2 k) ∧ s10 = .int .i64 k ∧ Aside (Below w1.heap.size w1 wr))
  case atStart => exact ⟨0, Nat.zero_le _, by omega, rfl, rfl, Below.refl _ _⟩
  case round =>
    obtain ⟨k, hk, hg, rfl, rfl, BW⟩ := hrel
    have HBW := Lib.hid (HB1.out.trans (BW.out.mono HB1.out.size))
    have hxb := (BW.out.block _ (Array.getElem?_eq_some_iff.1 HX.out).1).trans HX.out
    have bx1 : wr.cell? ⟨w.heap.size, 0, none⟩ = some (.int .i64 m1) := by simp [World.cell?, hxb]
    have bx2 : wr.cell? ⟨w.heap.size, 1, none⟩ = some (.int .i64 m2) := by simp [World.cell?, hxb]
    have hwlt : w.heap.size < wr.heap.size := (Array.getElem?_eq_some_iff.1 hxb).1
    clear hxb
    by_cases hlt : k < n2
    · have hltz : (k : Int) < (n2 : Int) := by omega
      have hk0 : (0 : Int) ≤ (k : Int) := by omega
      obtain ⟨b, off, rfl, hb, x1, x2⟩ := rd_pair (ST.out _ HBW.out) k hlt
      have RS := Lib.hid (risesUp_succ steps m2 k)
      generalize risesUp steps m2 k = r at RS ⊢
      generalize (steps[k]!).2 = s2 at x2 RS
      cases r with
      | true =>
        go_wp2
        go_quiet (fail)
        refine world_gen (w := wr) (Q := fun W => Exit.inBlock _ _ _ _ W) (fun W bW => ?_) _
        have HF := Lib.hid (BW.out.trans (bW.mono BW.out.size))
        clear bW x1 x2 bx1 bx2
        go_wp2
        go_roundg (n2 - (k + 1))
        case measure => omega
        case rel => exact ⟨k + 1, by omega, by omega, by rw [RS.out]; rfl, by go_num, HF.out⟩
      | false =>
        go_wp2
        go_quiet (fail)
        refine world_gen (w := wr) (Q := fun W => Exit.inBlock _ _ _ _ W) (fun W bW => ?_) _
        have HF := Lib.hid (BW.out.trans (bW.mono BW.out.size))
        clear bW x1 x2 bx1 bx2
        go_wp2
        go_roundg (n2 - (k + 1))
        case measure => omega
        case rel => exact ⟨k + 1, by omega, by omega, by rw [RS.out]; rfl, by go_num, HF.out⟩
    · have hltz : ¬ (k : Int) < (n2 : Int) := by omega
      obtain rfl : n2 = k := by omega
      generalize risesUp steps m2 n2 = r at HMORE ⊢
      rename World => w2
      go_wp2
      obtain ⟨i0, hi0, hy0, hy1, hy2⟩ := info_parts info_pair
      have I0 := Lib.hid (And.intro hi0 (And.intro hy0 (And.intro hy1 hy2)))
      have ho63 : n2 + 1 ≤ maxLen := by simp only [maxLen]; omega
      have hoby : (n2 + 1) * 16 ≤ 140737488355328 := by omega
      have hn6 : n2 ≤ 1000000 := by omega
      have HLEN := Lib.hid (show (steps.flatMap encPair).length = n2 * 2 by rw [flat_lenP, ← HSL.out])
      have notyet : True := trivial
      have RDN : Hid (∀ W, Below w2.heap.size w2 W → 0 < n2 → ∃ ad, a2 = some ad ∧ ∀ p u, (steps.flatMap encPair)[p]? = some u → W.cell? (ad.add p) = some u) := fun W hW =>
        rd_news (enc := encPair) (k := 2) (fun _ => rfl) (by decide) (ST.out W (HBW.out.trans (hW.mono HBW.out.size)))
      have BXN : Hid (∀ W, Below w2.heap.size w2 W → W.cell? ⟨w.heap.size, 0, none⟩ = some (.int .i64 m1) ∧ W.cell? ⟨w.heap.size, 1, none⟩ = some (.int .i64 m2)) := fun W hW =>
        ⟨(hW.cell (p := ⟨w.heap.size, 0, none⟩) hwlt).trans bx1, (hW.cell (p := ⟨w.heap.size, 1, none⟩) hwlt).trans bx2⟩
      clear hi0 hy0 hy1 hy2
      go_region_law (first
        | (have q := x3only; clear q; refine step_append_lies _ rfl _ _ 26 rfl w2.heap.size 30 i0 (.agg #[.int .i64 0, .int .i64 0]) 2 16 Tryd.underlying26 I0.out.1 I0.out.2.1 I0.out.2.2.1 I0.out.2.2.2 rfl (by decide) (.slice ao5 n2 cap5) n2 _ (by simp [Act.eval]) P5.out.1 ⟨w2.heap.size, 0, none⟩ 1 1 (encPair (m1, m2)) (by simp [Act.eval]) rfl (World.news_of_block x3only.out) (one_pair _) (by decide) ho63 hoby P5.out.2.size _ rfl ?_; intro g6 cap6 w6 h1 h2 _ _; have P6 := Lib.hid (P5.out.grow h2 h1); clear h1 h2)
        | (have q := P5; clear q; refine step_append_lies _ rfl _ _ 26 rfl w2.heap.size 30 i0 (.agg #[.int .i64 0, .int .i64 0]) 2 16 Tryd.underlying26 I0.out.1 I0.out.2.1 I0.out.2.2.1 I0.out.2.2.2 rfl (by decide) (.slice ao5 n2 cap5) n2 _ (by simp [Act.eval]) (P5.out.alloc _).1 ⟨w5.heap.size, 0, none⟩ 1 1 (encPair (m1, m2)) (by simp [Act.eval]) rfl (news_pair w5 (m1, m2) _) (one_pair _) (by decide) ho63 hoby (P5.out.alloc _).2.size _ rfl ?_; intro g6 cap6 w6 h1 h2 _ _; have P6 := Lib.hid ((P5.out.alloc _).grow h2 h1); clear h1 h2)
        | (have q := notyet; clear q; refine step_append_nilP _ rfl _ _ 26 rfl 30 i0 (.agg #[.int .i64 0, .int .i64 0]) 2 16 Tryd.underlying26 I0.out.1 I0.out.2.1 I0.out.2.2.1 I0.out.2.2.2 rfl (by decide) (by simp [Act.eval]) a2 n2 c2 (by simp [Act.eval, Act.put]) (steps.flatMap encPair) HLEN.out (RDN.out _ (show Below w2.heap.size w2 _ by repeat (first | exact Below.refl _ _ | apply Below.drew | refine Below.alloc ?_ (Nat.le_refl _) _))) (flat_one encPair one_pair _) hn6 (by decide) ?_; intro ao5 cap5 w5 h1 h2; have P5 := Lib.hid (NewP.mk0 (show Below w2.heap.size w2 _ by repeat (first | exact Below.refl _ _ | apply Below.drew | refine Below.alloc ?_ (Nat.le_refl _) _)) h1 h2); obtain ⟨y1, y2⟩ := BXN.out w5 P5.out.2; (first | have x3only : Hid (w5.heap[w2.heap.size]? = some (.cells #[.int .i64 m1, .int .i64 m2] 30 (0, 0))) := (h2.block w2.heap.size (show w2.heap.size < (w2.alloc _).heap.size by rw [World.size_alloc]; exact Nat.lt_succ_self _) (by simp)).trans (heap_alloc_new w2 _) | skip); clear h1 h2 notyet)
        | (go_simp; go_at_call 43; refine (PD2.out _ _ _ _ (HBW.out.trans (P6.out.2.mono HBW.out.size)) (P6.out.rd (by rw [List.length_append, ← HSL.out]; rfl) (by omega))).mono ?_; rintro e w7 ⟨rfl, hb7⟩; have HB7 := Lib.hid hb7; clear hb7))
      all_goals
        clear bx1 bx2
        have hmz : (m : Int) ≤ 300 := by omega
        have rd7 : Rd encPair 2 (w7.alloc (.cells #[.int .i64 0, .int .i64 7] 30)) (w7.alloc (.cells #[.int .i64 0, .int .i64 7] 30)).heap.size (some ⟨w7.heap.size, 0, none⟩) 1 [(0, 7)] :=
          rd_block (enc := encPair) (k := 2) (xs := [(0, 7)]) (cs := #[.int .i64 0, .int .i64 7]) (b := w7.heap.size) (fun _ => rfl) (heap_alloc_new w7 _) rfl (by rw [World.size_alloc]; exact Nat.lt_succ_self _) 1 rfl (by omega)
        have RD7 := Lib.hid rd7
        clear rd7
        by_cases he2 : er2 = 0
        · subst he2
          cases r with
          | true =>
            have hlt2 : d ≤ d2 := HMORE.out rfl rfl
            have hlt3 : ¬ d2 < d := by omega
            clear HMORE
            go_wp2_with (first
          | (go_at_call 43; refine (PD7.out _ _ 1 _ (HB7.out.alloc HB7.out.size _) RD7.out).mono ?_; rintro e w8 ⟨rfl, hb8⟩; have HB8 := Lib.hid hb8; clear hb8)
          | (go_at_call 20; refine (RT.out _ HB8.out).mono ?_; rintro e w9 ⟨ao, cp, rfl, hb9⟩; have HB9 := Lib.hid (HB8.out.trans (hb9.mono HB8.out.size)); clear hb9)
          | (go_at_call 18; refine (WK.out _ HB9.out).mono ?_; rintro e w10 ⟨rfl, hb10⟩))
            go_ret
            exact ⟨rfl, hb10⟩
          | false =>
            clear HMORE
            go_wp2_with (first
          | (go_at_call 43; refine (PD7.out _ _ 1 _ (HB7.out.alloc HB7.out.size _) RD7.out).mono ?_; rintro e w8 ⟨rfl, hb8⟩; have HB8 := Lib.hid hb8; clear hb8)
          | (go_at_call 20; refine (RT.out _ HB8.out).mono ?_; rintro e w9 ⟨ao, cp, rfl, hb9⟩; have HB9 := Lib.hid (HB8.out.trans (hb9.mono HB8.out.size)); clear hb9)
          | (go_at_call 18; refine (WK.out _ HB9.out).mono ?_; rintro e w10 ⟨rfl, hb10⟩))
            go_ret
            exact ⟨rfl, hb10⟩
        · have hf : (er2 == 0) = false := by simpa using he2
          clear HMORE he2
          go_wp2_with (first
          | (go_at_call 43; refine (PD7.out _ _ 1 _ (HB7.out.alloc HB7.out.size _) RD7.out).mono ?_; rintro e w8 ⟨rfl, hb8⟩; have HB8 := Lib.hid hb8; clear hb8)
          | (go_at_call 20; refine (RT.out _ HB8.out).mono ?_; rintro e w9 ⟨ao, cp, rfl, hb9⟩; have HB9 := Lib.hid (HB8.out.trans (hb9.mono HB8.out.size)); clear hb9)
          | (go_at_call 18; refine (WK.out _ HB9.out).mono ?_; rintro e w10 ⟨rfl, hb10⟩))
          go_ret
          exact ⟨rfl, hb10⟩
end Go.Proofs.YtchnhjffpldpiaaDoor
