/- parts.amount, parts.turning, parts.checkSeries -/
import Derived.Test.YtchnhjffpldpiaaDoorAppI
import Derived.Test.YtchnhjffpldpiaaDoorLoad
import Derived.Test.YtchnhjffpldpiaaDoorIdx
import Derived.Deep.QuietTactic
import Derived.BigQuiet
namespace Go.Proofs.YtchnhjffpldpiaaDoor
open Go.RowKit

theorem info_i : ((Tryd.prog).info? 3).map (fun i => (i.zero, i.size, i.bytes)) = some (some (.int .i64 0), 1, 8) := by kernel_rfl

set_option maxHeartbeats 400000 in
theorem amount_any (a b : Int) (w : World) (ha0 : -1000000 ≤ a) (ha1 : a ≤ 1000000) (hb0 : -1000000 ≤ b) (hb1 : b ≤ 1000000) :
    Calls Tryd.prog 115 #[.int .i64 a, .int .i64 b] w fun e w' => e = .returned (.int .i64 (dist a b)) ∧ w = w' := by
  by_cases h : b ≤ a
  all_goals
    go_enter Tryd.func115, Tryd.ntmps115
    go_wp2
    go_ret
    refine ⟨ret_int ?_, rfl⟩
    unfold dist
    omega

theorem code_named {P : Program} {c : Code} {Q : Exit → Act → World → Prop} {a : Act} {w : World} (h : ∀ W, W = w → c.wp P Q a W) : c.wp P Q a w := h w rfl
theorem below_drewN {B : Nat} {w W : World} (h : Below B w W) (q : Nat) : Below B w (W.drewN q) := by
  induction q with
  | zero => exact h
  | succ q ih => exact ih.drew

theorem world_gen {Q : World → Prop} {w : World} (h : ∀ W, Below w.heap.size w W → Q W) (q : Nat) : Q (w.drewN q) := h _ (below_drewN (Below.refl _ _) q)

/-- Every load is one. -/
def Loads (zs : List Int) : Prop := ∀ x ∈ zs, -1000000 ≤ x ∧ x ≤ 1000000

set_option maxRecDepth 100000 in
set_option maxHeartbeats 2000000 in
theorem turning_any (zs : List Int) (a : Option Addr) (n c : Nat) (w : World) (B : Nat) (hB : B ≤ w.heap.size) (hR : Rd encInt 1 w B a n zs) (hn : n ≤ 300) :
    Calls Tryd.prog 114 #[.slice a n c] w fun e w' => ∃ v, e = .returned v ∧ OwnI 3 w' w.heap.size v (turnP zs) ∧ Below w.heap.size w w' := by
  obtain ⟨b, off, ha, hc⟩ := hR.ex
  have HN := Lib.hid hR.len
  have HB : Aside (∀ W, Below w.heap.size w W → Below B w W) := fun W hW => hW.mono hB
  obtain ⟨i0, hi, hz0, hz1, hz2⟩ := info_parts info_i
  have I0 := Lib.hid (And.intro hi (And.intro hz0 (And.intro hz1 hz2)))
  clear hR hB hi hz0 hz1 hz2
  go_enter Tryd.func114, Tryd.ntmps114
  go_wp2
  go_loopg [2, 8] n (fun gg s2 s8 wr => ∃ kk : Nat, kk ≤ n ∧ n - kk ≤ gg ∧ s8 = .int .i64 kk ∧ Aside (Below w.heap.size w wr) ∧ Aside (OwnI 3 wr w.heap.size s2 (turnP (zs.take kk))))
  case atStart => exact ⟨0, Nat.zero_le _, by omega, rfl, Below.refl _ w, OwnI.nil⟩
  case round =>
    obtain ⟨kk, hkk, hg, rfl, BW, OW⟩ := hrel
    by_cases hlt : kk < n
    · have hltz : (kk : Int) < (n : Int) := by omega
      obtain ⟨rfl, hb⟩ := ha (by omega)
      have hlt' : kk < zs.length := by have := HN.out; omega
      have hl : wr.cell? ⟨b, off + kk, none⟩ = some (.int .i64 zs[kk]!) := by
        have := hc kk hlt 0 _ rfl
        rw [Nat.mul_one, Nat.add_zero] at this
        exact ((HB.out _ BW.out).cell (p := ⟨b, off + kk, none⟩) hb).trans this
      have T := Lib.hid (turnP_take zs kk hlt')
      have hml : (turnP (zs.take kk)).length ≤ kk := Nat.le_trans (turnP_len _) (List.length_take_le _ _)
      obtain ⟨out, hout⟩ : ∃ out, turnP (zs.take kk) = out := ⟨_, rfl⟩
      rw [hout] at OW T hml
      generalize zs[kk]! = y at hl T
      clear hc ha hout hlt'
      match out, OW, T, hml with
      | [], OW, T, hml =>
        have e2 : u2 = .slice none 0 0 := by
          rcases OW.out with h | ⟨_, _, _, _, _, _, _, h, _⟩
          · exact h.1
          · simp at h
        subst e2
        have TN : Aside (turnP (zs.take (kk + 1)) = [] ++ [y]) := by rw [show turnP (zs.take (kk + 1)) = turnStep [] y from T.out]; rfl
        go_wp2
        go_quiet (fail)
        refine world_gen (w := wr) (Q := fun W => Exit.then _ _ _ _ W) (fun W bW => ?_) _
        obtain ⟨o1, o2, o3⟩ := app_pre BW.out (Nat.le_refl _) OW.out bW y 3
        have O1 := Lib.hid o1
        have O2 := Lib.hid o2
        have O3 := Lib.hid o3
        have BW1 := Lib.hid bW
        clear o1 o2 o3 bW
        go_wp2_with (at_builtin; refine wpList_append_I _ rfl _ _ 22 rfl i0 Tryd.underlying22 I0.out.1 I0.out.2.1 I0.out.2.2.1 I0.out.2.2.2 (.slice none 0 0) [] rfl w.heap.size O1.out O2.out _ _ y rfl O3.out (by simp) ?_; intro g2 o2 cap2 w1 h1 h2 _; have H1 := Lib.hid h1; have H2 := Lib.hid h2; clear h1 h2)
        go_roundg (n - (kk + 1))
        case measure => omega
        case rel => exact ⟨kk + 1, by omega, by omega, by go_num, app_post BW.out (Nat.le_refl _) OW.out BW1.out H2.out, by rw [TN.out]; exact H1.out⟩
      | [p], OW, T, hml =>
        obtain ⟨g, o, cap, e2, _, _, _, _, hcell⟩ := OW.out.form (by simp)
        have c0 := (hcell 0 (by simp)).1
        rw [Nat.add_zero] at c0
        replace c0 : wr.cell? ⟨g, o, none⟩ = some (.int .i64 p) := c0
        replace e2 : u2 = .slice (some ⟨g, o, none⟩) 1 cap := e2
        subst e2
        clear hcell
        by_cases hp : p = y
        · subst hp
          have TN : Aside (turnP (zs.take (kk + 1)) = [p]) := by rw [show turnP (zs.take (kk + 1)) = turnStep [p] p from T.out]; exact turnStep_one_eq p
          go_wp2
          go_roundg (n - (kk + 1))
          case measure => omega
          case rel => exact ⟨kk + 1, by omega, by omega, by go_num, BW, by rw [TN.out]; exact OW.out⟩
        · have TN : Aside (turnP (zs.take (kk + 1)) = [p] ++ [y]) := by rw [show turnP (zs.take (kk + 1)) = turnStep [p] y from T.out]; exact turnStep_one p y hp
          have hpf : (p == y) = false := by simpa using hp
          clear hp
          go_wp2
          go_quiet (fail)
          refine world_gen (w := wr) (Q := fun W => Exit.then _ _ _ _ W) (fun W bW => ?_) _
          obtain ⟨o1, o2, o3⟩ := app_pre BW.out (Nat.le_refl _) OW.out bW y 3
          have O1 := Lib.hid o1
          have O2 := Lib.hid o2
          have O3 := Lib.hid o3
          have BW1 := Lib.hid bW
          clear o1 o2 o3 bW
          go_wp2_with (at_builtin; refine wpList_append_I _ rfl _ _ 22 rfl i0 Tryd.underlying22 I0.out.1 I0.out.2.1 I0.out.2.2.1 I0.out.2.2.2 (.slice (some ⟨g, o, none⟩) 1 cap) [p] rfl w.heap.size O1.out O2.out _ _ y rfl O3.out (by simp only [List.length_cons, List.length_nil] at hml ⊢; omega) ?_; intro g2 o2 cap2 w1 h1 h2 _; have H1 := Lib.hid h1; have H2 := Lib.hid h2; clear h1 h2)
          go_roundg (n - (kk + 1))
          case measure => omega
          case rel => exact ⟨kk + 1, by omega, by omega, by go_num, app_post BW.out (Nat.le_refl _) OW.out BW1.out H2.out, by rw [TN.out]; exact H1.out⟩
      | p :: p' :: rest, OW, T, hml =>
        obtain ⟨out, hout⟩ : ∃ out, p :: p' :: rest = out := ⟨_, rfl⟩
        obtain ⟨q, hq⟩ : ∃ q, out.length = q + 2 := ⟨rest.length, by rw [← hout]; rfl⟩
        rw [hout] at OW T hml
        clear hout
        obtain ⟨g, o, cap, e2, hcap, hmx, _, hgl, hcell⟩ := OW.out.form (by intro e; rw [e] at hq; simp at hq)
        have c0 := (hcell q (by omega)).1
        have c1 := (hcell (q + 1) (by omega)).1
        have f1 := (hcell (q + 1) (by omega)).2
        rw [hq] at e2 hml hcap
        subst e2
        clear hcell
        have hq300 : (q : Int) + 2 ≤ 300 := by omega
        have hq0 : (0 : Int) ≤ (q : Int) := by omega
        have T1 : Aside (out[q + 1]! = y → turnP (zs.take (kk + 1)) = out) := fun h => T.out.trans (turnStep_eq out y q hq h)
        have T2 : Aside (¬ out[q + 1]! = y → (decide (out[q]! < out[q + 1]!) = decide (out[q + 1]! < y)) → turnP (zs.take (kk + 1)) = out.set (q + 1) y) := fun h h2 => T.out.trans (turnStep_set out y q hq h (by simpa using h2))
        have T3 : Aside (¬ out[q + 1]! = y → (¬ decide (out[q]! < out[q + 1]!) = decide (out[q + 1]! < y)) → turnP (zs.take (kk + 1)) = out ++ [y]) := fun h h2 => T.out.trans (turnStep_app out y q hq h (by simpa using h2))
        have HQ := Lib.hid hq
        clear hq
        generalize out[q]! = a1 at c0 T2 T3
        generalize out[q + 1]! = a2 at c1 T1 T2 T3
        by_cases hp : a2 = y
        · subst hp
          have TN : Aside (turnP (zs.take (kk + 1)) = out) := T1.out rfl
          clear T T1 T2 T3
          go_wp2
          go_roundg (n - (kk + 1))
          case measure => omega
          case rel => exact ⟨kk + 1, by omega, by omega, by go_num, BW, by rw [TN.out]; exact OW.out⟩
        · have hpf : (a2 == y) = false := by simpa using hp
          have T2' := Lib.hid (T2.out hp)
          have T3' := Lib.hid (T3.out hp)
          clear hp T T1 T2 T3
          cases hb1 : decide (a1 < a2) <;> cases hb2 : decide (a2 < y) <;> rw [hb1, hb2] at T2' T3'
          · have TN : Aside (turnP (zs.take (kk + 1)) = out.set (q + 1) y) := T2'.out rfl
            clear T2' T3'
            go_wp2
            have hg1 : decide ((1 : Int) < (q : Int) + 2) = true := by simp; omega
            go_quiet (fail)
            refine world_gen (w := wr) (Q := fun W => Exit.then _ _ _ _ W) (fun W bW => ?_) _
            have d1 : W.cell? ⟨g, o + (q + 1), none⟩ = some (.int .i64 a2) := (bW.cell (p := ⟨g, o + (q + 1), none⟩) hgl).trans c1
            have d2 : W.frozen? ⟨g, o + (q + 1), none⟩ = false := (bW.frozen (p := ⟨g, o + (q + 1), none⟩) hgl).trans f1
            have BW1 := Lib.hid bW
            clear bW c0 c1 f1
            go_wp2
            go_roundg (n - (kk + 1))
            case measure => omega
            case rel =>
              have O2 := ((OW.out.below BW1.out).set (q + 1) (by rw [HQ.out]; omega) y)
              exact ⟨kk + 1, by omega, by omega, by go_num, (BW.out.trans (BW1.out.mono BW.out.size)).setCell (p := ⟨g, o + (q + 1), none⟩) (OW.out.own rfl).1 _, by rw [TN.out]; exact O2⟩
          · have TN : Aside (turnP (zs.take (kk + 1)) = out ++ [y]) := T3'.out (by simp)
            clear T2' T3'
            go_wp2
            have hg1 : decide ((1 : Int) < (q : Int) + 2) = true := by simp; omega
            go_quiet (fail)
            refine world_gen (w := wr) (Q := fun W => Exit.then _ _ _ _ W) (fun W bW => ?_) _
            obtain ⟨o1, o2, o3⟩ := app_pre BW.out (Nat.le_refl _) OW.out bW y 3
            have O1 := Lib.hid o1
            have O2 := Lib.hid o2
            have O3 := Lib.hid o3
            have BW1 := Lib.hid bW
            clear o1 o2 o3 bW c0 c1 f1
            go_wp2_with (at_builtin; refine wpList_append_I _ rfl _ _ 22 rfl i0 Tryd.underlying22 I0.out.1 I0.out.2.1 I0.out.2.2.1 I0.out.2.2.2 (.slice (some ⟨g, o, none⟩) (q + 2) cap) out rfl w.heap.size O1.out O2.out _ _ y rfl O3.out (by have := HQ.out; omega) ?_; rw [HQ.out]; intro g2 o2 cap2 w1 h1 h2 _; have H1 := Lib.hid h1; have H2 := Lib.hid h2; clear h1 h2)
            go_roundg (n - (kk + 1))
            case measure => omega
            case rel => exact ⟨kk + 1, by omega, by omega, by go_num, app_post BW.out (Nat.le_refl _) OW.out BW1.out H2.out, by rw [TN.out]; exact H1.out⟩
          · have TN : Aside (turnP (zs.take (kk + 1)) = out ++ [y]) := T3'.out (by simp)
            clear T2' T3'
            go_wp2
            have hg1 : decide ((1 : Int) < (q : Int) + 2) = true := by simp; omega
            go_quiet (fail)
            refine world_gen (w := wr) (Q := fun W => Exit.then _ _ _ _ W) (fun W bW => ?_) _
            obtain ⟨o1, o2, o3⟩ := app_pre BW.out (Nat.le_refl _) OW.out bW y 3
            have O1 := Lib.hid o1
            have O2 := Lib.hid o2
            have O3 := Lib.hid o3
            have BW1 := Lib.hid bW
            clear o1 o2 o3 bW c0 c1 f1
            go_wp2_with (at_builtin; refine wpList_append_I _ rfl _ _ 22 rfl i0 Tryd.underlying22 I0.out.1 I0.out.2.1 I0.out.2.2.1 I0.out.2.2.2 (.slice (some ⟨g, o, none⟩) (q + 2) cap) out rfl w.heap.size O1.out O2.out _ _ y rfl O3.out (by have := HQ.out; omega) ?_; rw [HQ.out]; intro g2 o2 cap2 w1 h1 h2 _; have H1 := Lib.hid h1; have H2 := Lib.hid h2; clear h1 h2)
            go_roundg (n - (kk + 1))
            case measure => omega
            case rel => exact ⟨kk + 1, by omega, by omega, by go_num, app_post BW.out (Nat.le_refl _) OW.out BW1.out H2.out, by rw [TN.out]; exact H1.out⟩
          · have TN : Aside (turnP (zs.take (kk + 1)) = out.set (q + 1) y) := T2'.out rfl
            clear T2' T3'
            go_wp2
            have hg1 : decide ((1 : Int) < (q : Int) + 2) = true := by simp; omega
            go_quiet (fail)
            refine world_gen (w := wr) (Q := fun W => Exit.then _ _ _ _ W) (fun W bW => ?_) _
            have d1 : W.cell? ⟨g, o + (q + 1), none⟩ = some (.int .i64 a2) := (bW.cell (p := ⟨g, o + (q + 1), none⟩) hgl).trans c1
            have d2 : W.frozen? ⟨g, o + (q + 1), none⟩ = false := (bW.frozen (p := ⟨g, o + (q + 1), none⟩) hgl).trans f1
            have BW1 := Lib.hid bW
            clear bW c0 c1 f1
            go_wp2
            go_roundg (n - (kk + 1))
            case measure => omega
            case rel =>
              have O2 := ((OW.out.below BW1.out).set (q + 1) (by rw [HQ.out]; omega) y)
              exact ⟨kk + 1, by omega, by omega, by go_num, (BW.out.trans (BW1.out.mono BW.out.size)).setCell (p := ⟨g, o + (q + 1), none⟩) (OW.out.own rfl).1 _, by rw [TN.out]; exact O2⟩
    · have hltz : ¬ (kk : Int) < (n : Int) := by omega
      have : kk = n := by omega
      subst this
      go_wp2
      go_ret
      refine ⟨_, rfl, ?_, BW.out⟩
      have h := OW.out
      rwa [HN.out, List.take_length] at h
end Go.Proofs.YtchnhjffpldpiaaDoor
