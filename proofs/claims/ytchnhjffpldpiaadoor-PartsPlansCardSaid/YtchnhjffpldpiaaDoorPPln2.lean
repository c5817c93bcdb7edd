/- parts.planner.look walked. -/
import Derived.Test.YtchnhjffpldpiaaDoorPPln
namespace Go.Proofs.YtchnhjffpldpiaaDoor
open Go Go.RowKit

theorem cell_blk3 {W : World} {b : Nat} {x y z : Value} {T : TypeId} (h : W.heap[b]? = some (.cells #[x, y, z] T (0, 0))) : W.cell? ⟨b, 0, none⟩ = some x ∧ W.cell? ⟨b, 1, none⟩ = some y ∧ W.cell? ⟨b, 2, none⟩ = some z ∧ W.frozen? ⟨b, 1, none⟩ = false ∧ W.frozen? ⟨b, 2, none⟩ = false := by
  simp [World.cell?, World.frozen?, h]

set_option maxRecDepth 100000 in
set_option maxHeartbeats 1000000 in
theorem look_cut {w : World} {B pb : Nat} {fv sv nv : Value} {spares now : List Int} {st : Option (List Int × Int)} (h : PlM w B pb fv sv nv spares now st) (ch : Int) (hc : cutP st ch = true) :
    Calls Tryd.prog 91 #[.pointer (some ⟨pb, 0, none⟩), sv, nv, .int .i64 ch] w fun e w' => e = .returned (.tuple #[]) ∧ w = w' := by
  obtain ⟨bv, c0, hp, hb⟩ := h.best
  obtain ⟨p0, p1, p2, _, _⟩ := cell_blk3 hp
  cases st with
  | none => cases hc
  | some bc =>
    obtain ⟨b, c⟩ := bc
    obtain ⟨e1, g, cap, e2, _, _, _⟩ := hb
    subst e1 e2
    have hcc : c0 ≤ ch := by simpa [cutP] using hc
    have nn := fun (W : World) (n c n' c' : Nat) (a : Option Addr) => run_neq_slice_nil_any (P := Tryd.prog) W 22 3 a n c n' c' Tryd.underlying22
    clear hp h hc
    go_enter Tryd.func91, Tryd.ntmps91
    go_wp2_with (fail)
    exact bodyPost_ret (results_none rfl _ _ _) rfl ⟨rfl, rfl⟩

set_option maxRecDepth 100000 in
set_option maxHeartbeats 1000000 in
theorem look_leaf {w : World} {B pb nb nf cf : Nat} {af : Option Addr} {sv : Value} {spares now : List Int} {st : Option (List Int × Int)} (h : PlM w B pb (.slice af nf cf) sv (.slice (some ⟨nb, 0, none⟩) now.length nf) spares now st) (hB : B ≤ w.heap.size) (hn : now.length = nf) (h8 : nf ≤ 8) (ch : Int) (hc : cutP st ch = false) :
    Calls Tryd.prog 91 #[.pointer (some ⟨pb, 0, none⟩), sv, .slice (some ⟨nb, 0, none⟩) now.length nf, .int .i64 ch] w fun e w' => e = .returned (.tuple #[]) ∧ PlM w' B pb (.slice af nf cf) sv (.slice (some ⟨nb, 0, none⟩) now.length nf) spares now (some (now, ch)) ∧ Below B w w' := by
  obtain ⟨bv, c0, hp, hb⟩ := h.best
  obtain ⟨p0, p1, p2, _, _⟩ := cell_blk3 hp
  have HP := Lib.hid h
  have HB := Lib.hid hB
  obtain ⟨i0, hi0, hy0, hy1, hy2⟩ := info_parts info_i
  have I0 := Lib.hid (And.intro hi0 (And.intro hy0 (And.intro hy1 hy2)))
  have nn := fun (W : World) (n c n' c' : Nat) (a : Option Addr) => run_neq_slice_nil_any (P := Tryd.prog) W 22 3 a n c n' c' Tryd.underlying22
  obtain ⟨n0, hn0⟩ : ∃ n0, now.length = n0 := ⟨_, rfl⟩
  have HN := Lib.hid hn0
  rw [hn0] at hn HP ⊢
  have hne : ((n0 : Int) == (nf : Int)) = true := by simp; omega
  have h8' : n0 ≤ 8 := by omega
  have hpl := h.pbl
  have HPB := Lib.hid h.pbs
  have tok : st = none ∧ bv = .slice none 0 0 ∨ ∃ g b cap, bv = .slice (some ⟨g, 0, none⟩) b cap ∧ ¬ c0 ≤ ch := by
    cases st with
    | none => exact .inl ⟨rfl, hb⟩
    | some bc =>
      obtain ⟨b, c⟩ := bc
      obtain ⟨e1, g, cap, e2, _⟩ := hb
      refine .inr ⟨g, _, cap, e2, ?_⟩
      simpa [cutP, e1] using hc
  clear h hp hb hB hn hn0 hi0 hy0 hy1 hy2 hc
  rcases tok with ⟨_, rfl⟩ | ⟨g, b, cap, rfl, hcc⟩
  all_goals
    go_enter Tryd.func91, Tryd.ntmps91
    go_wp2_with (at_builtin; refine wpList_append_own_at _ rfl _ _ 22 rfl w.heap.size 3 i0 (.int .i64 0) 1 8 Tryd.underlying22 I0.out.1 I0.out.2.1 I0.out.2.2.1 I0.out.2.2.2 rfl (by decide) (.slice (some ⟨w.heap.size, 0, none⟩) 0 0) 0 [] rfl (World.ownsRow_made w #[] 0 (Nat.le_refl _) (by simp [maxLen]) rfl) ⟨nb, 0, none⟩ n0 nf (now.map (Value.int .i64)) rfl (by rw [List.length_map, HN.out, Nat.mul_one]) (fun j u hu => (HP.out.n.alloc _).cells rfl j u hu) (by simp [Value.oneCell']) (by simp only [maxLen]; omega) (by omega) (by rw [World.size_alloc]; omega) ?_; intro v' w5 h1 h2 h3 _; obtain ⟨g5, cap5, rfl, hg5, hl5⟩ := row_some0 h1 (fun e => by have := (h3.1 e).1; cases this); rw [Nat.zero_add] at h1 ⊢; have hb5 : Below w.heap.size w w5 := ((Below.refl _ w).alloc (Nat.le_refl _) _).grown h2 (by rw [World.size_alloc]; omega) (fun k e => by cases e; exact Nat.le_refl _); have ST := Lib.hid (HP.out.store HB.out hb5 h1 HN.out ch); obtain ⟨bv5, c5, hp5, _⟩ := HP.out.best; obtain ⟨r0, r1, r2, r3, r4⟩ := cell_blk3 ((hb5.block _ hpl).trans hp5); clear h1 h2 h3 hb5 hp5)
    exact bodyPost_ret (results_none rfl _ _ _) rfl ⟨rfl, ST.out⟩

theorem set_back {l : List Int} {k : Nat} (hk : k < l.length) (y : Int) : (l.set k y).set k l[k]! = l := by
  rw [List.set_set, getElem!_pos l k hk]
  exact List.set_getElem_self hk
theorem moreP_bd (now : List Int) (i ch : Int) : ch ≤ moreP now i ch ∧ moreP now i ch ≤ ch + 1 := by unfold moreP; split <;> omega

set_option maxRecDepth 100000 in
set_option maxHeartbeats 4000000 in
theorem look_any (flights : List Int) (hfl : Flights flights) (af : Option Addr) (nf cf : Nat) (h8 : nf ≤ 8) : ∀ (fs now spares : List Int) (st : Option (List Int × Int)) (ch : Int) (sb so ns cs nb n0 : Nat) (w : World) (B pb : Nat),
    PlM w B pb (.slice af nf cf) (.slice (some ⟨sb, so, none⟩) ns cs) (.slice (some ⟨nb, 0, none⟩) n0 nf) spares now st → B ≤ w.heap.size → Rd encInt 1 w B af nf flights → now.length = n0 → flights.drop n0 = fs → n0 + fs.length = nf → Spares spares → ns = spares.length → ns ≤ 6 → 0 ≤ ch → ch ≤ n0 →
    Calls Tryd.prog 91 #[.pointer (some ⟨pb, 0, none⟩), .slice (some ⟨sb, so, none⟩) ns cs, .slice (some ⟨nb, 0, none⟩) n0 nf, .int .i64 ch] w fun e w' => e = .returned (.tuple #[]) ∧ PlM w' B pb (.slice af nf cf) (.slice (some ⟨sb, so, none⟩) ns cs) (.slice (some ⟨nb, 0, none⟩) n0 nf) spares now (lookP fs spares now ch st) ∧ Below B w w' := by
  intro fs
  induction fs with
  | nil =>
    intro now spares st ch sb so ns cs nb n0 w B pb hp hB hF hn hd hl hsp hns hns6 hc0 hc1
    subst hn
    rw [lookP_nil]
    cases hc : cutP st ch with
    | true => exact (look_cut hp ch hc).mono fun e w' ⟨h1, h2⟩ => ⟨h1, by rw [← h2, if_pos rfl]; exact hp, by rw [h2]; exact Below.refl _ _⟩
    | false =>
      rw [if_neg (by decide)]
      exact look_leaf hp hB (by simpa using hl) h8 ch hc
  | cons f fs ih =>
    intro now spares st ch sb so ns cs nb n0 w B pb hp hB hF hn hd hl hsp hns hns6 hc0 hc1
    rw [lookP_cons]
    cases hc : cutP st ch with
    | true => exact (look_cut hp ch hc).mono fun e w' ⟨h1, h2⟩ => ⟨h1, by rw [← h2, if_pos rfl]; exact hp, by rw [h2]; exact Below.refl _ _⟩
    | false =>
      rw [if_neg (by decide), ← hns]
      obtain ⟨hlf, hf, hd2⟩ := drop_cons hd
      have hl2 : n0 + 1 + fs.length = nf := by simp at hl; omega
      have hn0 : n0 < nf := by omega
      have hne : ((n0 : Int) == (nf : Int)) = false := by simp; omega
      have hn0z : (n0 : Int) < (nf : Int) := by omega
      have hn0p : (0 : Int) ≤ (n0 : Int) := by omega
      have hn08 : n0 ≤ 8 := by omega
      have hf1 := hfl n0 hlf
      rw [hf] at hf1
      obtain ⟨hf0, hf2⟩ := hf1
      obtain ⟨fb, fo, rfl, hfb, xf⟩ := rd_one hF n0 hn0
      rw [hf] at xf
      have FC : Hid (∀ W, Below B w W → W.cell? ⟨fb, fo + n0, none⟩ = some (.int .i64 f)) := fun W hW => (hW.cell (p := ⟨fb, fo + n0, none⟩) hfb).trans xf
      have FS : Hid (∀ W, Below B w W → Rd encInt 1 W B (some ⟨fb, fo, none⟩) nf flights) := fun W hW => hF.below hW
      obtain ⟨bv, c0, hpp, hbv⟩ := hp.best
      obtain ⟨p0, p1, p2, _, _⟩ := cell_blk3 hpp
      have tok : bv = .slice none 0 0 ∨ ∃ g b cap, bv = .slice (some ⟨g, 0, none⟩) b cap ∧ ¬ c0 ≤ ch := by
        cases st with
        | none => exact .inl hbv
        | some bc =>
          obtain ⟨b, c⟩ := bc
          obtain ⟨e1, g, cap, e2, _⟩ := hbv
          refine .inr ⟨g, _, cap, e2, ?_⟩
          simpa [cutP, e1] using hc
      obtain ⟨i0, hi0, hy0, hy1, hy2⟩ := info_parts info_i
      have I0 := Lib.hid (And.intro hi0 (And.intro hy0 (And.intro hy1 hy2)))
      have nn := fun (W : World) (n c n' c' : Nat) (a : Option Addr) => run_neq_slice_nil_any (P := Tryd.prog) W 22 3 a n c n' c' Tryd.underlying22
      have HP := Lib.hid hp
      have HB := Lib.hid hB
      have HN := Lib.hid (And.intro hn (And.intro hd2 (And.intro hl2 hns)))
      have HSP := Lib.hid hsp
      have IH := Lib.hid ih
      clear hp hpp hbv hB hF hn hd hd2 hl hl2 hf hfl xf hsp hns ih hi0 hy0 hy1 hy2 hc hlf
      rcases tok with rfl | ⟨g, b, cap, rfl, hcc⟩
      all_goals
        go_enter Tryd.func91, Tryd.ntmps91
        go_wp2_with (fail)
        go_loopg [46] ns (fun gg s46 wr => ∃ k : Nat, k ≤ ns ∧ ns - k ≤ gg ∧ s46 = .int .i64 k ∧ Aside (PlM wr B pb (.slice (some ⟨fb, fo, none⟩) nf cf) (.slice (some ⟨sb, so, none⟩) ns cs) (.slice (some ⟨nb, 0, none⟩) n0 nf) spares now (lookUp (lookP fs) f spares now ch st k)) ∧ Aside (Below B w wr))
        case atStart => exact ⟨0, Nat.zero_le _, by omega, rfl, HP.out, Below.refl _ _⟩
        case round =>
          obtain ⟨k, hk, hg, rfl, PM, BW⟩ := hrel
          clear p0 p1 p2
          by_cases hlt : k < ns
          · have hltz : (k : Int) < (ns : Int) := by omega
            have hk0 : (0 : Int) ≤ (k : Int) := by omega
            have hkl : k < spares.length := by rw [← HN.out.2.2.2]; exact hlt
            obtain ⟨x1, x2⟩ := own_cell PM.out.s k hkl
            have y1 := FC.out wr BW.out
            obtain ⟨bv2, c2, hpp, _⟩ := PM.out.best
            obtain ⟨p0, _, _, _, _⟩ := cell_blk3 hpp
            obtain ⟨q0, q1⟩ := HSP.out k hkl
            have LU := Lib.hid (lookUp_succ (lookP fs) f spares now ch st k)
            have SB := Lib.hid (set_back hkl)
            have SS : Hid (¬ spares[k]! < f → Spares (spares.set k (spares[k]! - f))) := fun h => HSP.out.set hkl h hf0
            obtain ⟨x, hx⟩ : ∃ x, spares[k]! = x := ⟨_, rfl⟩
            rw [hx] at x1 q0 q1 LU SB SS
            obtain ⟨S, hS⟩ : ∃ S, lookUp (lookP fs) f spares now ch st k = S := ⟨_, rfl⟩
            rw [hS] at PM LU
            have HKL := Lib.hid hkl
            have hpbl := PM.out.pbl
            have hsbl := (PM.out.s.own rfl).2
            have hnbl := (PM.out.n.lt nb rfl).2
            have hpsb : ¬ pb = sb := fun e => PM.out.pbs.1 (by rw [e]; rfl)
            clear hx hS hkl hpp
            by_cases hxf : x < f
            · rw [if_pos hxf] at LU
              go_wp2_with (fail)
              go_roundg (ns - (k + 1))
              case measure => omega
              case rel => exact ⟨k + 1, by omega, by omega, by go_num, by rw [LU.out]; exact PM.out, BW.out⟩
            · rw [if_neg hxf] at LU
              have SP2 := Lib.hid (SS.out hxf)
              obtain ⟨m, hm⟩ : ∃ m, moreP now (k : Int) ch = m := ⟨_, rfl⟩
              have HMB := Lib.hid (hm ▸ moreP_bd now (k : Int) ch : ch ≤ m ∧ m ≤ ch + 1)
              rw [hm] at LU
              unfold moreP at hm
              rw [HN.out.1] at hm
              have P1 := Lib.hid (PM.out.setS k HKL.out (x - f))
              clear SS
              have hsB := (PM.out.s.own rfl).1
              have hnB := (PM.out.n.lt nb rfl).1
              have hm0 : 0 ≤ m := by have := HMB.out; omega
              have hm1 : m ≤ ((n0 + 1 : Nat) : Int) := by have := HMB.out; omega
              have BA := Lib.hid (((BW.out.setCell (p := ⟨sb, so + k, none⟩) hsB (.int .i64 (x - f))).alloc (by have := BW.out.size; have := HB.out; simp; omega) (.cells #[.int .i64 (k : Int)] 3)).drew)
              have HC := Lib.hid (show ∀ j u, [Value.int .i64 (k : Int)][j]? = some u → (((wr.setCell ⟨sb, so + k, none⟩ (.int .i64 (x - f))).alloc (.cells #[.int .i64 (k : Int)] 3)).drew).cell? ((⟨wr.heap.size, 0, none⟩ : Addr).add j) = some u by
                have hb := heap_alloc_new (wr.setCell ⟨sb, so + k, none⟩ (.int .i64 (x - f))) (.cells #[.int .i64 (k : Int)] 3)
                rw [show (wr.setCell ⟨sb, so + k, none⟩ (.int .i64 (x - f))).heap.size = wr.heap.size by simp] at hb
                exact World.news_of_block (cs := #[.int .i64 (k : Int)]) hb)
              rcases Nat.eq_zero_or_pos n0 with h0 | h0
              · rw [if_neg (by omega)] at hm
                have hz : ¬ (0 : Int) < (n0 : Int) := by omega
                subst hm
                clear h0
                go_wp2_with (fail)
                go_region
                all_goals
                  go_wp2_with (first
                    | (at_builtin; refine wpList_append_fits _ rfl _ _ 22 rfl B 3 i0 1 Tryd.underlying22 I0.out.1 I0.out.2.2.1 nb n0 nf (now.map (Value.int .i64)) rfl (((P1.out.alloc _).drew).row HN.out.1) ⟨wr.heap.size, 0, none⟩ 1 1 [.int .i64 (k : Int)] rfl rfl HC.out (by simp [Value.oneCell']) (by omega) ?_; intro w5 h1 h2; have P5 := Lib.hid (((P1.out.alloc _).drew).push h2 h1 HN.out.1.symm); have B5 := Lib.hid (BA.out.grown h2 (Nat.le_trans HB.out BA.out.size) (fun k e => by cases e; exact hnB)); clear h1 h2)
                    | (go_at_call 91; refine (IH.out (now ++ [(k : Int)]) (spares.set k (x - f)) S _ sb so ns cs nb (n0 + 1) w5 B pb P5.out (Nat.le_trans HB.out B5.out.size) (FS.out _ B5.out) (by rw [List.length_append, HN.out.1]; rfl) HN.out.2.1 HN.out.2.2.1 SP2.out (by rw [List.length_set]; exact HN.out.2.2.2) hns6 hm0 hm1).mono ?_; rintro e w6 ⟨rfl, h1, h2⟩; have P6 := Lib.hid h1; have B6 := Lib.hid (B5.out.trans h2); obtain ⟨z1, z2⟩ := own_cell h1.s k (by rw [List.length_set]; exact HKL.out); clear h1 h2))
                  go_roundg (ns - (k + 1))
                  case measure => omega
                  case rel => exact ⟨k + 1, by omega, by omega, by go_num, (by have h := (P6.out.pop HN.out.1.symm).setS k (by rw [List.length_set]; exact HKL.out) x; rw [SB.out] at h; rw [LU.out]; exact h), B6.out.setCell (p := ⟨sb, so + k, none⟩) hsB _⟩
              · obtain ⟨j, rfl⟩ : ∃ j, n0 = j + 1 := ⟨n0 - 1, by omega⟩
                have l1 := PM.out.n.cells rfl j (.int .i64 now[j]!) (by rw [List.getElem?_map, getElem!_pos now j (by rw [HN.out.1]; omega), List.getElem?_eq_getElem (by rw [HN.out.1]; omega)]; rfl)
                rw [Addr.add_lit, Nat.zero_add] at l1
                rw [Nat.add_sub_cancel] at hm
                have hz : (0 : Int) < (j : Int) + 1 := by omega
                generalize now[j]! = y at hm l1
                by_cases hy : y = (k : Int)
                · rw [if_neg (by omega)] at hm
                  have hyb : (y == (k : Int)) = true := by simpa using hy
                  subst hm
                  clear h0 hy
                  go_wp2_with (fail)
                  go_region
                  all_goals
                    go_wp2_with (first
                      | (at_builtin; refine wpList_append_fits _ rfl _ _ 22 rfl B 3 i0 1 Tryd.underlying22 I0.out.1 I0.out.2.2.1 nb (j + 1) nf (now.map (Value.int .i64)) rfl (((P1.out.alloc _).drew).row HN.out.1) ⟨wr.heap.size, 0, none⟩ 1 1 [.int .i64 (k : Int)] rfl rfl HC.out (by simp [Value.oneCell']) (by omega) ?_; intro w5 h1 h2; have P5 := Lib.hid (((P1.out.alloc _).drew).push h2 h1 HN.out.1.symm); have B5 := Lib.hid (BA.out.grown h2 (Nat.le_trans HB.out BA.out.size) (fun k e => by cases e; exact hnB)); clear h1 h2)
                      | (go_at_call 91; refine (IH.out (now ++ [(k : Int)]) (spares.set k (x - f)) S _ sb so ns cs nb ((j + 1) + 1) w5 B pb P5.out (Nat.le_trans HB.out B5.out.size) (FS.out _ B5.out) (by rw [List.length_append, HN.out.1]; rfl) HN.out.2.1 HN.out.2.2.1 SP2.out (by rw [List.length_set]; exact HN.out.2.2.2) hns6 hm0 hm1).mono ?_; rintro e w6 ⟨rfl, h1, h2⟩; have P6 := Lib.hid h1; have B6 := Lib.hid (B5.out.trans h2); obtain ⟨z1, z2⟩ := own_cell h1.s k (by rw [List.length_set]; exact HKL.out); clear h1 h2))
                    go_roundg (ns - (k + 1))
                    case measure => omega
                    case rel => exact ⟨k + 1, by omega, by omega, by go_num, (by have h := (P6.out.pop HN.out.1.symm).setS k (by rw [List.length_set]; exact HKL.out) x; rw [SB.out] at h; rw [LU.out]; exact h), B6.out.setCell (p := ⟨sb, so + k, none⟩) hsB _⟩
                · rw [if_pos ⟨by omega, hy⟩] at hm
                  have hyb : (y == (k : Int)) = false := by simpa using hy
                  subst hm
                  clear h0 hy
                  go_wp2_with (fail)
                  go_region
                  all_goals
                    go_wp2_with (first
                      | (at_builtin; refine wpList_append_fits _ rfl _ _ 22 rfl B 3 i0 1 Tryd.underlying22 I0.out.1 I0.out.2.2.1 nb (j + 1) nf (now.map (Value.int .i64)) rfl (((P1.out.alloc _).drew).row HN.out.1) ⟨wr.heap.size, 0, none⟩ 1 1 [.int .i64 (k : Int)] rfl rfl HC.out (by simp [Value.oneCell']) (by omega) ?_; intro w5 h1 h2; have P5 := Lib.hid (((P1.out.alloc _).drew).push h2 h1 HN.out.1.symm); have B5 := Lib.hid (BA.out.grown h2 (Nat.le_trans HB.out BA.out.size) (fun k e => by cases e; exact hnB)); clear h1 h2)
                      | (go_at_call 91; refine (IH.out (now ++ [(k : Int)]) (spares.set k (x - f)) S _ sb so ns cs nb ((j + 1) + 1) w5 B pb P5.out (Nat.le_trans HB.out B5.out.size) (FS.out _ B5.out) (by rw [List.length_append, HN.out.1]; rfl) HN.out.2.1 HN.out.2.2.1 SP2.out (by rw [List.length_set]; exact HN.out.2.2.2) hns6 hm0 hm1).mono ?_; rintro e w6 ⟨rfl, h1, h2⟩; have P6 := Lib.hid h1; have B6 := Lib.hid (B5.out.trans h2); obtain ⟨z1, z2⟩ := own_cell h1.s k (by rw [List.length_set]; exact HKL.out); clear h1 h2))
                    go_roundg (ns - (k + 1))
                    case measure => omega
                    case rel => exact ⟨k + 1, by omega, by omega, by go_num, (by have h := (P6.out.pop HN.out.1.symm).setS k (by rw [List.length_set]; exact HKL.out) x; rw [SB.out] at h; rw [LU.out]; exact h), B6.out.setCell (p := ⟨sb, so + k, none⟩) hsB _⟩
          · have hltz : ¬ (k : Int) < (ns : Int) := by omega
            obtain rfl : ns = k := by omega
            go_wp2_with (fail)
            go_end0
            exact ⟨rfl, PM.out, BW.out⟩
end Go.Proofs.YtchnhjffpldpiaaDoor
