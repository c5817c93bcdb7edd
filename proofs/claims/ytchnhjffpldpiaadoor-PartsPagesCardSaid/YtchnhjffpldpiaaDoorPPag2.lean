/- parts.covered. -/
import Derived.Test.YtchnhjffpldpiaaDoorPPag
namespace Go.Proofs.YtchnhjffpldpiaaDoor
open Go Go.RowKit

def covR (p : Int → Bool) (hours : Int) (pages : List (Int × Int)) : List (Int × Int) := if pagesE hours pages = 0 then strUp (fun h => p (many pages h)) hours.toNat else []
theorem StrM.nil {w wr : World} (h : Below w.heap.size w wr) : StrM w wr (.slice none 0 0) [] := ⟨World.ownsRow_nil _ _ _ _, h⟩

variable {pages : List (Int × Int)} {a : Option Addr} {n c : Nat} {w : World} {B : Nat}

set_option maxRecDepth 100000 in
set_option maxHeartbeats 1000000 in
theorem cov_arg (hours : Int) (h : inB hours 0 100000 = false) (v : Value) :
    Calls Tryd.prog 94 #[.int .i64 hours, .slice a n c, v] w fun e w' => e = .returned (.tuple #[.slice none 0 0, .int .i64 1]) ∧ Below w.heap.size w w' := by
  have W1 := Lib.hid (fun W => within_r hours 0 100000 false h W)
  clear h
  go_enter Tryd.func94, Tryd.ntmps94
  go_wp2_with (go_at_call 66; refine (W1.out _).mono ?_; rintro e w' ⟨rfl, rfl⟩)
  go_ret2
  exact ⟨rfl, Below.refl _ _⟩
set_option maxRecDepth 100000 in
set_option maxHeartbeats 1000000 in
theorem cov_many (hours : Int) (h : inB hours 0 100000 = true) (hn : 20 < n) (v : Value) :
    Calls Tryd.prog 94 #[.int .i64 hours, .slice a n c, v] w fun e w' => e = .returned (.tuple #[.slice none 0 0, .int .i64 2]) ∧ Below w.heap.size w w' := by
  have W1 := Lib.hid (fun W => within_r hours 0 100000 true h W)
  have hnz : (20 : Int) < (n : Int) := by omega
  clear h hn
  go_enter Tryd.func94, Tryd.ntmps94
  go_wp2_with (go_at_call 66; refine (W1.out _).mono ?_; rintro e w' ⟨rfl, rfl⟩)
  go_ret2
  exact ⟨rfl, Below.refl _ _⟩

def zer (k : Nat) : Array Value := (List.replicate k (Value.int .i64 0)).toArray
theorem zer_own (w : World) (k : Nat) (hk : 0 < k) (hm : k ≤ 1000000) (E : TypeId) : OwnI E (w.alloc (.cells (zer k) E)) w.heap.size (.slice (some ⟨w.heap.size, 0, none⟩) k k) (List.replicate k 0) := by
  refine .inr ⟨w.heap.size, 0, k, List.replicate k (Value.int .i64 0), by simp, Nat.le_refl _, heap_alloc_new w _, by simpa using hk, by simp, by simp, by simp only [maxLen]; omega, fun j hj => ?_⟩
  rw [List.length_replicate] at hj
  rw [Nat.zero_add, List.getElem?_replicate, if_pos hj, getElem!_pos _ j (by simpa using hj)]
  simp
theorem own_at {E : TypeId} {w : World} {B g n cap : Nat} {xs : List Int} (h : OwnI E w B (.slice (some ⟨g, 0, none⟩) n cap) xs) (j : Nat) (hj : j < xs.length) : w.cell? ⟨g, j, none⟩ = some (.int .i64 xs[j]!) ∧ w.frozen? ⟨g, j, none⟩ = false := by
  obtain ⟨cur, e, h2, h3, h4, h5, h6, h7, h8⟩ := h.at
  have := h8 j hj
  rw [Nat.zero_add] at this
  exact ⟨by simp [World.cell?, h3, this], by simp [World.frozen?, h3]⟩
theorem preS_bd (pages : List (Int × Int)) (hp : ∀ k, k < pages.length → 0 ≤ (pages[k]!).1 ∧ (pages[k]!).1 ≤ (pages[k]!).2) (k : Nat) : 0 ≤ preS pages pages.length k ∧ preS pages pages.length k ≤ (pages.length : Int) := by
  cases k with
  | zero => rw [preS_zero]; omega
  | succ k => rw [preS_many pages hp k _ (Nat.le_refl _)]; exact manyUp_bd pages k _

set_option maxRecDepth 100000 in
set_option maxHeartbeats 4000000 in
theorem cov_go (hB : B ≤ w.heap.size) (hS : Rd encPair 2 w B a n pages) (H : Nat) (hH : H ≤ 100000) (hn : n ≤ 20) (gf : Nat) (eg : ∀ args w, (callFunc gf args).run Tryd.prog w = .ok (.enter gf args) w) (p : Int → Bool)
    (hp : ∀ x W, Calls Tryd.prog gf #[.int .i64 x] W fun e w' => e = .returned (.bool (p x)) ∧ W = w') (er : Int) (he : pagesE H pages = er) (out : List (Int × Int)) (ho : covR p H pages = out) :
    Calls Tryd.prog 94 #[.int .i64 H, .slice a n c, .func (.func gf) #[] #[]] w fun e w' => ∃ v, e = .returned (.tuple #[v, .int .i64 er]) ∧ StrM w w' v out := by
  have hin : inB (H : Int) 0 100000 = true := by rw [inB_iff]; omega
  have W1 := Lib.hid (fun W => within_r (H : Int) 0 100000 true hin W)
  have hl := hS.len
  have E10 : Hid (∀ k, k < n → badPage H pages[k]! = true → er = 10 ∧ out = []) := fun k hk hb => by
    have e : pagesE H pages = 10 := by
      unfold pagesE
      rw [if_neg (by rw [hin]; decide), if_neg (by omega), if_pos]
      exact List.any_eq_true.2 ⟨pages[k]!, by rw [getElem!_pos pages k (by omega)]; exact List.getElem_mem _, hb⟩
    refine ⟨by rw [← he, e], ?_⟩
    rw [← ho]; unfold covR; rw [e]; rfl
  obtain ⟨f, hf⟩ : ∃ f : Int → Bool, (fun h => p (many pages h)) = f := ⟨_, rfl⟩
  have HF : Hid (∀ h, f h = p (many pages h)) := fun h => by rw [← hf]
  have E0 : Hid ((∀ k, k < n → badPage H pages[k]! = false) → er = 0 ∧ out = strUp f H ∧ ∀ k, k < pages.length → 0 ≤ (pages[k]!).1 ∧ (pages[k]!).1 ≤ (pages[k]!).2) := fun hg => by
    have e : pagesE H pages = 0 := by
      unfold pagesE
      rw [if_neg (by rw [hin]; decide), if_neg (by omega), if_neg]
      intro hx
      obtain ⟨x, hx, hb⟩ := List.any_eq_true.1 hx
      obtain ⟨k, hk, rfl⟩ := List.getElem_of_mem hx
      have := hg k (by omega)
      rw [getElem!_pos pages k hk, hb] at this
      cases this
    refine ⟨by rw [← he, e], ?_, fun k hk => ?_⟩
    · rw [← ho]; unfold covR; rw [e, if_pos rfl, hf]; rfl
    · have := (pages_of e).2.2 k hk; exact ⟨this.1, this.2.1⟩
  have ST : Hid (∀ W, Below w.heap.size w W → Rd encPair 2 W B a n pages) := fun W hW => hS.below (hW.mono hB)
  have HP := Lib.hid hp
  have HL := Lib.hid hl
  have HBS := Lib.hid hB
  have mk : ∀ W, (Instr.makeSlice 22 (.int .i64 ((H : Int) + 1)) (.int .i64 ((H : Int) + 1))).run Tryd.prog W = .ok (.slice (some ⟨W.heap.size, 0, none⟩) (H + 1) (H + 1)) (W.alloc (.cells (zer (H + 1)) 3)) := fun W => by
    have := mk_rep (P := Tryd.prog) 22 3 (.int .i64 0) (.int .i64 0) 1 8 Tryd.underlying22 info_i (one_cell rfl) (H + 1) (by omega) (by omega) W
    simpa [zer] using this
  have hnz : ¬ (20 : Int) < (n : Int) := by omega
  have hH0 : (0 : Int) ≤ (H : Int) := by omega
  have hHz : (H : Int) ≤ 100000 := by omega
  clear hS hB hp he ho hin hl hf
  go_enter Tryd.func94, Tryd.ntmps94
  go_wp2_with (go_at_call 66; refine (W1.out _).mono ?_; rintro e w' ⟨rfl, rfl⟩)
  have O0 := Lib.hid (zer_own w (H + 1) (by omega) (by omega) 3)
  rw [← chgL_zero pages H] at O0
  have B0 := Lib.hid ((Below.refl w.heap.size w).alloc (Nat.le_refl _) (.cells (zer (H + 1)) 3))
  clear mk
  go_loopg [6, 25] n (fun gg s6 s25 wr => ∃ k : Nat, k ≤ n ∧ n - k ≤ gg ∧ s6 = .slice none 0 0 ∧ s25 = .int .i64 k ∧ Aside (OwnI 3 wr w.heap.size (.slice (some ⟨w.heap.size, 0, none⟩) (H + 1) (H + 1)) (chgL pages H k)) ∧ Aside (Below w.heap.size w wr) ∧ Aside (∀ j, j < k → badPage H pages[j]! = false))
  case atStart => exact ⟨0, Nat.zero_le _, by omega, rfl, rfl, O0.out, B0.out, fun j hj => by omega⟩
  case round =>
    obtain ⟨k, hk, hg, rfl, rfl, OW, BW, GD⟩ := hrel
    have hwlt : w.heap.size < wr.heap.size := by
      obtain ⟨_, _, _, h3, _⟩ := OW.out.at
      exact (Array.getElem?_eq_some_iff.1 h3).1
    by_cases hlt : k < n
    · have hltz : (k : Int) < (n : Int) := by omega
      have hk0 : (0 : Int) ≤ (k : Int) := by omega
      obtain ⟨b, off, rfl, hb, x1, x2⟩ := rd_pair (ST.out _ BW.out) k hlt
      have E1 := Lib.hid (E10.out k hlt)
      have BP : Hid (badPage H pages[k]! = !(inB (pages[k]!).1 0 ((H : Int) - 1) && inB (pages[k]!).2 (pages[k]!).1 ((H : Int) - 1))) := rfl
      obtain ⟨s, hs⟩ : ∃ s, pages[k]! = s := ⟨_, rfl⟩
      have HS := Lib.hid hs
      rw [hs] at x1 x2 E1 BP
      obtain ⟨l, h⟩ := s
      simp only at x1 x2
      clear hs
      have PC := page_check l h wr
      obtain ⟨r, hr⟩ : ∃ r, okSpan l h = r := ⟨_, rfl⟩
      rw [hr] at PC
      cases r with
      | false =>
        obtain ⟨h1, h2⟩ := E1.out (by
          rw [BP.out]
          cases e : (inB l 0 ((H : Int) - 1) && inB h l ((H : Int) - 1)) with
          | false => rfl
          | true =>
            simp only [Bool.and_eq_true, inB_iff] at e
            unfold okSpan at hr
            rw [Bool.and_eq_false_iff, inB_not, decide_eq_false_iff_not] at hr
            omega)
        subst h1 h2
        clear hr E1 BP
        go_wp2_with (go_at_call 124; refine (PC.out _ rfl).mono ?_; rintro e w1 ⟨rfl, y1, y2, hz, hb1⟩; have HB1 := Lib.hid hb1; clear hb1)
        go_ret2
        exact ⟨_, rfl, StrM.nil (BW.out.trans (HB1.out.mono BW.out.size))⟩
      | true =>
        by_cases hl0 : l < 0
        · obtain ⟨h1, h2⟩ := E1.out (by
            rw [BP.out, inB_not.2 (by simp only; omega)]; rfl)
          subst h1 h2
          clear hr E1 BP
          go_wp2_with (go_at_call 124; refine (PC.out _ rfl).mono ?_; rintro e w1 ⟨rfl, y1, y2, hz, hb1⟩; have HB1 := Lib.hid hb1; clear hb1)
          go_ret2
          exact ⟨_, rfl, StrM.nil (BW.out.trans (HB1.out.mono BW.out.size))⟩
        · by_cases hh1 : (H : Int) - 1 < h
          · obtain ⟨h1, h2⟩ := E1.out (by
              rw [BP.out, show inB h l ((H : Int) - 1) = false from inB_not.2 (by omega), Bool.and_false]; rfl)
            subst h1 h2
            clear hr E1 BP
            go_wp2_with (go_at_call 124; refine (PC.out _ rfl).mono ?_; rintro e w1 ⟨rfl, y1, y2, hz, hb1⟩; have HB1 := Lib.hid hb1; clear hb1)
            go_ret2
            exact ⟨_, rfl, StrM.nil (BW.out.trans (HB1.out.mono BW.out.size))⟩
          · have hlh : l ≤ h := by
              unfold okSpan at hr
              rw [Bool.and_eq_true, inB_iff] at hr
              exact hr.1.2
            obtain ⟨lo, rfl⟩ := Int.eq_ofNat_of_zero_le (show 0 ≤ l by omega)
            obtain ⟨hi, rfl⟩ := Int.eq_ofNat_of_zero_le (show 0 ≤ h by omega)
            have hbad : badPage H pages[k]! = false := by
              rw [HS.out]
              unfold badPage
              rw [inB_iff.2 (by simp only; omega), inB_iff.2 (by simp only; omega)]; rfl
            have GD2 : Hid (∀ j, j < k + 1 → badPage H pages[j]! = false) := fun j hj => by
              by_cases e : j = k
              · rw [e]; exact hbad
              · exact GD.out j (by omega)
            have CS := Lib.hid (chgL_step pages H k lo hi HS.out (by omega))
            have hX := chgUp_bd pages (lo : Int) k
            have hY := chgUp_bd pages ((hi : Int) + 1) k
            have hne : ¬ hi + 1 = lo := by omega
            have hne2 : ¬ lo = hi + 1 := by omega
            have hloH : (lo : Int) < (H : Int) + 1 := by omega
            have hhiH : (hi : Int) + 1 < (H : Int) + 1 := by omega
            have hlo0 : (0 : Int) ≤ (lo : Int) := by omega
            have hhi0 : (0 : Int) ≤ (hi : Int) + 1 := by omega
            have hhlo : ¬ (lo : Int) < 0 := by omega
            have HLG : Hid (lo < H + 1 ∧ hi + 1 < H + 1 ∧ k ≤ 20) := by constructor; omega; omega
            clear hr E1 BP hbad
            go_wp2_with (fail)
            refine (PC.out _ rfl).mono ?_
            rintro e w1 ⟨rfl, y1, y2, hz, hb1⟩
            have O1 := Lib.hid (OW.out.below hb1)
            obtain ⟨q1, q2⟩ := own_at O1.out lo (by rw [chgL_len]; exact HLG.out.1)
            obtain ⟨q3, q4⟩ := own_at O1.out (hi + 1) (by rw [chgL_len]; exact HLG.out.2.1)
            rw [chgL_get pages H k lo HLG.out.1] at q1
            rw [chgL_get pages H k (hi + 1) HLG.out.2.1, show ((hi + 1 : Nat) : Int) = (hi : Int) + 1 by omega] at q3
            generalize chgUp pages (lo : Int) k = X at q1 CS hX
            generalize chgUp pages ((hi : Int) + 1) k = Y at q3 CS hY
            have HB1 := Lib.hid hb1
            have hX0 : -20 ≤ X := by omega
            have hX1 : X ≤ 20 := by omega
            have hY0 : -20 ≤ Y := by omega
            have hY1 : Y ≤ 20 := by omega
            have hwlt1 : w.heap.size < w1.heap.size := by omega
            clear hb1 hX hY
            go_wp2
            go_roundg (n - (k + 1))
            case measure => omega
            case rel =>
              refine ⟨k + 1, by omega, by omega, rfl, by go_num, ?_, ?_, GD2.out⟩
              · have h1 := O1.out.set lo (by rw [chgL_len]; exact HLG.out.1) (X + 1)
                have h2 := h1.set (hi + 1) (by rw [List.length_set, chgL_len]; exact HLG.out.2.1) (Y - 1)
                rw [CS.out] at h2
                simp only [Nat.zero_add] at h2
                exact h2
              · exact ((BW.out.trans (HB1.out.mono BW.out.size)).setCell (p := ⟨w.heap.size, lo, none⟩) (Nat.le_refl _) _).setCell (p := ⟨w.heap.size, hi + 1, none⟩) (Nat.le_refl _) _
    · have hltz : ¬ (k : Int) < (n : Int) := by omega
      obtain rfl : n = k := by omega
      obtain ⟨h1, h2, h3⟩ := E0.out GD.out
      subst h1 h2
      have HPG := Lib.hid h3
      obtain ⟨i0, hi0, hy0, hy1, hy2⟩ := info_parts info_sp
      have I0 := Lib.hid (And.intro hi0 (And.intro hy0 (And.intro hy1 hy2)))
      obtain ⟨w1, rfl⟩ : ∃ w1, w1 = wr := ⟨_, rfl⟩
      clear h3 E10 E0 hi0 hy0 hy1 hy2
      go_wp2
      go_loopg [6, 11, 62] H (fun gg s6 s11 s62 wr => ∃ k : Nat, k ≤ H ∧ H - k ≤ gg ∧ s62 = .int .i64 k ∧ s11 = .int .i64 (preS pages n k) ∧ Aside (StrM w1 wr s6 (strUp f k)))
      case atStart => exact ⟨0, Nat.zero_le _, by omega, rfl, rfl, StrM.nil (Below.refl _ _)⟩
      case round =>
        obtain ⟨k, hk, hg, rfl, rfl, SM⟩ := hrel
        by_cases hlt : k < H
        · have hltz : (k : Int) < (H : Int) := by omega
          have hk0 : (0 : Int) ≤ (k : Int) := by omega
          have hkH : (k : Int) < (H : Int) + 1 := by omega
          obtain ⟨q1, _⟩ := own_at OW.out k (by rw [chgL_len]; omega)
          rw [chgL_get pages H n k (by omega)] at q1
          replace q1 := (SM.out.2.cell (p := ⟨w.heap.size, k, none⟩) hwlt).trans q1
          have SU := Lib.hid (strUp_succ f k)
          have hlen := strUp_len f k
          have PS := Lib.hid (preS_succ pages n k)
          have hm1 : preS pages n (k + 1) = many pages (k : Int) := by rw [HL.out]; exact preS_many pages HPG.out k _ (Nat.le_refl _)
          have hm2 := manyUp_bd pages (k : Int) pages.length
          have hs2 := preS_bd pages HPG.out k
          rw [← HL.out] at hs2 hm2
          have hfk := HF.out (k : Int)
          unfold many at hfk hm1
          rw [← HL.out] at hfk hm1
          rw [← hm1] at hfk hm2
          rw [PS.out] at hfk hm2
          generalize preS pages n k = S at PS hfk hs2 hm2 ⊢
          generalize chgUp pages (k : Int) n = X at PS hfk hm2 q1
          have HP2 := Lib.hid (HP.out (S + X))
          generalize p (S + X) = r at HP2 hfk
          rw [hfk] at SU
          obtain ⟨out, hout⟩ : ∃ out, strUp f k = out := ⟨_, rfl⟩
          rw [hout] at SM SU hlen
          have hS0 : 0 ≤ S := hs2.1
          have hS1 : S ≤ 20 := by omega
          have hX0 : -20 ≤ X := by omega
          have hX1 : X ≤ 20 := by omega
          clear hs2 hm2 hfk hout hm1
          cases r with
          | false =>
            rw [if_neg (by decide)] at SU
            obtain ⟨ao, cap, rfl⟩ := row_view SM.out.1
            go_wp2_with (go_at_fn gf; refine (HP2.out _).mono ?_; rintro e w2 ⟨rfl, rfl⟩)
            go_roundg (H - (k + 1))
            case measure => omega
            case rel => exact ⟨k + 1, by omega, by omega, by go_num, by rw [PS.out], by rw [SU.out]; exact SM.out⟩
          | true =>
            rw [if_pos rfl] at SU
            rcases list_end out with rfl | ⟨A, l, u, rfl⟩
            · rw [strStep_nil] at SU
              rcases SM.out.val with e | ⟨g, cap, e⟩
              all_goals
                subst e
                go_wp2_with (first
                  | (go_at_fn gf; refine (HP2.out _).mono ?_; rintro e w2 ⟨rfl, rfl⟩)
                  | (at_builtin; refine wpList_append_lies _ rfl _ _ 81 rfl w1.heap.size 91 i0 (.agg #[.int .i64 0, .int .i64 0]) 2 16 Tryd.underlying81 I0.out.1 I0.out.2.1 I0.out.2.2.1 I0.out.2.2.2 rfl (by decide) _ 0 _ rfl ((SM.out.row 0 rfl).alloc _) ⟨wr.heap.size, 0, none⟩ 1 1 (encPair ((k : Int), (k : Int))) rfl rfl (news_pair wr ((k : Int), (k : Int)) _) (by simp [encPair, Value.oneCell']) (by decide) (by simp only [maxLen]; omega) (by omega) (by have := SM.out.2.size; rw [World.size_alloc]; omega) _ rfl ?_; intro g3 cap3 w3 h1 h2 _ _; have SM3 := Lib.hid (SM.out.grow 0 rfl h2 h1); clear h1 h2))
                go_roundg (H - (k + 1))
                case measure => omega
                case rel => exact ⟨k + 1, by omega, by omega, by go_num, by rw [PS.out], by rw [SU.out]; exact SM3.out⟩
            · have hA : A.length + 1 ≤ 100000 := by rw [List.length_append, List.length_singleton] at hlen; omega
              obtain ⟨g, cap, e, hg0, hg1, hc, hf, hst⟩ := own_last SM.out.1
              subst e
              have HG := Lib.hid hg0
              have HST := Lib.hid hst
              clear hg0 hst
              by_cases hu : u = (k : Int) - 1
              · rw [strStep_same A l u k hu] at SU
                have hub : (u == (k : Int) - 1) = true := by simpa using hu
                clear hu
                go_wp2_with (go_at_fn gf; refine (HP2.out _).mono ?_; rintro e w2 ⟨rfl, rfl⟩)
                go_roundg (H - (k + 1))
                case measure => omega
                case rel => exact ⟨k + 1, by omega, by omega, by go_num, by rw [PS.out], by rw [SU.out]; exact StrM.last SM.out.2 HG.out (HST.out _)⟩
              · rw [strStep_more A l u k hu] at SU
                have hub : (u == (k : Int) - 1) = false := by simpa using hu
                clear hu
                go_wp2_with (first
                  | (go_at_fn gf; refine (HP2.out _).mono ?_; rintro e w2 ⟨rfl, rfl⟩)
                  | (at_builtin; refine wpList_append_lies _ rfl _ _ 81 rfl w1.heap.size 91 i0 (.agg #[.int .i64 0, .int .i64 0]) 2 16 Tryd.underlying81 I0.out.1 I0.out.2.1 I0.out.2.2.1 I0.out.2.2.2 rfl (by decide) _ (A.length + 1) _ rfl ((SM.out.row (A.length + 1) (by simp)).alloc _) ⟨wr.heap.size, 0, none⟩ 1 1 (encPair ((k : Int), (k : Int))) rfl rfl (news_pair wr ((k : Int), (k : Int)) _) (by simp [encPair, Value.oneCell']) (by decide) (by simp only [maxLen]; omega) (by omega) (by have := SM.out.2.size; rw [World.size_alloc]; omega) _ rfl ?_; intro g3 cap3 w3 h1 h2 _ _; have SM3 := Lib.hid (SM.out.grow (A.length + 1) (by simp) h2 h1); clear h1 h2))
                go_roundg (H - (k + 1))
                case measure => omega
                case rel => exact ⟨k + 1, by omega, by omega, by go_num, by rw [PS.out], by rw [SU.out]; exact SM3.out⟩
        · have hltz : ¬ (k : Int) < (H : Int) := by omega
          obtain rfl : H = k := by omega
          go_wp2
          go_ret2
          exact ⟨_, rfl, SM.out.up BW.out⟩
end Go.Proofs.YtchnhjffpldpiaaDoor
